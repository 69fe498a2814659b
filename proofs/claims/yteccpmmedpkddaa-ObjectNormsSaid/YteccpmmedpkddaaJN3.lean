/-
  Stable sorting in plain words: merging by halves.
  Objects' contents; symbols in order, plain.
  Relocations and symbols: whether two rows are the same.
  Rows of relocations and of symbols compared: the code's and the document's.
-/
import Derived.Sort.LotA
import Derived.Test.YteccpmmedpkddaaJN2
import Derived.Shelf.SlSortCmp.Insertion
import Derived.Test.YteccpmmedpkddaaJN1
import Derived.Test.YteccpmmedpkddaaShelf
import Derived.Deep.RegionHeld3
import Derived.Deep.DeepCutAuto
namespace Go.Proofs.Yteccpmmedpkddaa
open Go.Sort

/-- In order: no later one is less than an earlier one. -/
def Srt {α : Type} (R : α → α → Bool) (l : List α) : Prop := l.Pairwise fun x y => R y x = false
/-- Less, or alike and with the smaller number. -/
def lexR {α : Type} (lt : α → α → Bool) (ix : α → Nat) (x y : α) : Bool := lt x y || (!lt y x && decide (ix x < ix y))
section
variable {α : Type} {R lt : α → α → Bool} {ix : α → Nat}
theorem swo_asymm [Inhabited α] (h : SWO R) {x y : α} (hxy : R x y = true) : R y x = false := by
  cases hh : R y x
  · rfl
  · have := h.trans _ _ _ hxy hh; rw [h.irrefl] at this; cases this
theorem lex_cross [Inhabited α] {x y : α} (hxy : ix x < ix y) : lexR lt ix y x = lt y x := by
  unfold lexR
  have : ¬ ix y < ix x := by omega
  simp [this]
theorem swo_lex [Inhabited α] (h : SWO lt) : SWO (lexR lt ix) where
  irrefl x := by unfold lexR; simp [h.irrefl]
  trans x y z h1 h2 := by
    unfold lexR at *
    simp only [Bool.or_eq_true, Bool.and_eq_true, Bool.not_eq_true', decide_eq_true_eq] at *
    rcases h1 with h1 | ⟨h1, i1⟩ <;> rcases h2 with h2 | ⟨h2, i2⟩
    · exact .inl (h.trans _ _ _ h1 h2)
    · cases hxz : lt x z
      · have := h.ntrans _ _ _ hxz h2; rw [h1] at this; cases this
      · exact .inl rfl
    · cases hxz : lt x z
      · have := h.ntrans _ _ _ h1 hxz; rw [h2] at this; cases this
      · exact .inl rfl
    · exact .inr ⟨h.ntrans _ _ _ h2 h1, by omega⟩
  ntrans x y z h1 h2 := by
    unfold lexR at *
    simp only [Bool.or_eq_false_iff, Bool.and_eq_false_iff, Bool.not_eq_false', decide_eq_false_iff_not] at *
    obtain ⟨a1, b1⟩ := h1
    obtain ⟨a2, b2⟩ := h2
    refine ⟨h.ntrans _ _ _ a1 a2, ?_⟩
    rcases b1 with b1 | b1
    · cases hzx : lt z x
      · have := h.ntrans _ _ _ a2 hzx; rw [b1] at this; cases this
      · exact .inl rfl
    · rcases b2 with b2 | b2
      · cases hzx : lt z x
        · have := h.ntrans _ _ _ hzx a1; rw [b2] at this; cases this
        · exact .inl rfl
      · exact .inr (by omega)
theorem srt_app {A B : List α} : Srt R (A ++ B) ↔ Srt R A ∧ Srt R B ∧ ∀ x ∈ A, ∀ y ∈ B, R y x = false := List.pairwise_append
/-- Two runs cut so that the first parts are not behind the second ones. -/
theorem merge_cut [Inhabited α] (hS : SWO R) {A1 A2 B1 B2 : List α} (hA : Srt R (A1 ++ A2)) (hB : Srt R (B1 ++ B2))
    (h1 : A1 = [] ∨ B2 = [] ∨ ∃ L x y M, A1 = L ++ [x] ∧ B2 = y :: M ∧ R y x = false)
    (h2 : A2 = [] ∨ B1 = [] ∨ ∃ M y x L, A2 = y :: M ∧ B1 = L ++ [x] ∧ R y x = false) :
    ∀ x ∈ A1 ++ B1, ∀ y ∈ A2 ++ B2, R y x = false := by
  obtain ⟨a1, a2, a3⟩ := srt_app.1 hA
  obtain ⟨b1, b2, b3⟩ := srt_app.1 hB
  intro x hx y hy
  rcases List.mem_append.1 hx with hx | hx <;> rcases List.mem_append.1 hy with hy | hy
  · exact a3 x hx y hy
  · rcases h1 with rfl | rfl | ⟨L, x', y', M, rfl, rfl, hxy⟩
    · cases hx
    · cases hy
    · have e1 : R x' x = false := by
        rcases List.mem_append.1 hx with hx | hx
        · exact (srt_app.1 a1).2.2 x hx x' (by simp)
        · rw [List.mem_singleton.1 hx]; exact hS.irrefl _
      have e2 : R y y' = false := by
        rcases List.mem_cons.1 hy with rfl | hy
        · exact hS.irrefl _
        · exact (List.pairwise_cons.1 b2).1 y hy
      exact hS.ntrans _ _ _ e2 (hS.ntrans _ _ _ hxy e1)
  · rcases h2 with rfl | rfl | ⟨M, y', x', L, rfl, rfl, hxy⟩
    · cases hy
    · cases hx
    · have e1 : R x' x = false := by
        rcases List.mem_append.1 hx with hx | hx
        · exact (srt_app.1 b1).2.2 x hx x' (by simp)
        · rw [List.mem_singleton.1 hx]; exact hS.irrefl _
      have e2 : R y y' = false := by
        rcases List.mem_cons.1 hy with rfl | hy
        · exact hS.irrefl _
        · exact (List.pairwise_cons.1 a2).1 y hy
      exact hS.ntrans _ _ _ e2 (hS.ntrans _ _ _ hxy e1)
  · exact b3 x hx y hy
theorem merge_join {A1 A2 B1 B2 C1 C2 : List α} (h : ∀ x ∈ A1 ++ B1, ∀ y ∈ A2 ++ B2, R y x = false) (p1 : C1.Perm (A1 ++ B1)) (p2 : C2.Perm (A2 ++ B2)) (s1 : Srt R C1) (s2 : Srt R C2) :
    Srt R (C1 ++ C2) ∧ (C1 ++ C2).Perm ((A1 ++ A2) ++ (B1 ++ B2)) := by
  refine ⟨srt_app.2 ⟨s1, s2, fun x hx y hy => h x (p1.mem_iff.1 hx) y (p2.mem_iff.1 hy)⟩, ?_⟩
  refine (p1.append p2).trans ?_
  rw [List.append_assoc, List.append_assoc]
  refine List.Perm.append_left A1 ?_
  rw [← List.append_assoc, ← List.append_assoc]
  exact (List.perm_append_comm).append_right B2
/-- One element of a run put behind those of the other run that are less. -/
theorem merge_one_left [Inhabited α] (hS : SWO R) {x : α} {B1 B2 : List α} (hB : Srt R (B1 ++ B2))
    (h1 : B1 = [] ∨ ∃ L z, B1 = L ++ [z] ∧ R z x = true) (h2 : B2 = [] ∨ ∃ y M, B2 = y :: M ∧ R y x = false) : Srt R (B1 ++ x :: B2) := by
  obtain ⟨b1, b2, b3⟩ := srt_app.1 hB
  have k1 : ∀ z ∈ B1, R x z = false := by
    rcases h1 with rfl | ⟨L, z', rfl, hz⟩
    · intro z hz; cases hz
    · intro z hz'
      have e : R z' z = false := by
        rcases List.mem_append.1 hz' with h | h
        · exact (srt_app.1 b1).2.2 z h z' (by simp)
        · rw [List.mem_singleton.1 h]; exact hS.irrefl _
      exact hS.ntrans _ _ _ (swo_asymm hS hz) e
  refine srt_app.2 ⟨b1, List.pairwise_cons.2 ⟨?_, b2⟩, ?_⟩
  · rcases h2 with rfl | ⟨y', M, rfl, hy⟩
    · intro y hy; cases hy
    · intro y hy'
      rcases List.mem_cons.1 hy' with rfl | h
      · exact hy
      · exact hS.ntrans _ _ _ ((List.pairwise_cons.1 b2).1 y h) hy
  · intro z hz y hy
    rcases List.mem_cons.1 hy with rfl | h
    · exact k1 z hz
    · exact b3 z hz y h
theorem merge_one_right [Inhabited α] (hS : SWO R) {y : α} {A1 A2 : List α} (hA : Srt R (A1 ++ A2))
    (h1 : A1 = [] ∨ ∃ L z, A1 = L ++ [z] ∧ R y z = false) (h2 : A2 = [] ∨ ∃ x M, A2 = x :: M ∧ R y x = true) : Srt R (A1 ++ y :: A2) := by
  obtain ⟨a1, a2, a3⟩ := srt_app.1 hA
  have k1 : ∀ z ∈ A1, R y z = false := by
    rcases h1 with rfl | ⟨L, z', rfl, hz⟩
    · intro z hz; cases hz
    · intro z hz'
      have e : R z' z = false := by
        rcases List.mem_append.1 hz' with h | h
        · exact (srt_app.1 a1).2.2 z h z' (by simp)
        · rw [List.mem_singleton.1 h]; exact hS.irrefl _
      exact hS.ntrans _ _ _ hz e
  refine srt_app.2 ⟨a1, List.pairwise_cons.2 ⟨?_, a2⟩, ?_⟩
  · rcases h2 with rfl | ⟨x', M, rfl, hx⟩
    · intro x hx; cases hx
    · intro x hx'
      have e : R x x' = false := by
        rcases List.mem_cons.1 hx' with rfl | h
        · exact hS.irrefl _
        · exact (List.pairwise_cons.1 a2).1 x h
      exact hS.ntrans _ _ _ e (swo_asymm hS hx)
  · intro z hz x hx
    rcases List.mem_cons.1 hx with rfl | h
    · exact k1 z hz
    · exact a3 z hz x h
end

/-! ### Insertion sort, the numbers rising -/
section
variable {α : Type} [Inhabited α] {lt : α → α → Bool} {ix : α → Nat}
theorem insInner_lex (a : Nat) : ∀ (j : Nat) (d : Array α), j < d.size → (∀ t, a ≤ t → t < j → ix d[t]! < ix d[j]!) → insInner (lexR lt ix) a j d = insInner lt a j d
  | 0, _, _, _ => rfl
  | j + 1, d, hj, h => by
    unfold insInner
    by_cases hc : j + 1 > a
    · rw [lex_cross (h j (by omega) (by omega))]
      by_cases hl : (decide (j + 1 > a) && lt d[j + 1]! d[j]!) = true
      · rw [if_pos hl, if_pos hl]
        refine insInner_lex a j _ (by rw [size_swp]; omega) fun t ht1 ht2 => ?_
        rw [swp_get d hj (by omega) t, swp_get d hj (by omega) j]
        have := h t ht1 (by omega)
        simp [show t ≠ j by omega, show t ≠ j + 1 by omega, show ¬ j = j + 1 by omega]
        exact this
      · rw [if_neg hl, if_neg hl]
    · have e : ∀ b : Bool, ¬ (decide (j + 1 > a) && b) = true := by intro b; simp; omega
      rw [if_neg (e _), if_neg (e _)]
theorem insInner_size (a : Nat) : ∀ (j : Nat) (d : Array α), (insInner lt a j d).size = d.size
  | 0, _ => rfl
  | j + 1, d => by
    unfold insInner
    split
    · rw [insInner_size a j]; exact size_swp _ _ _
    · rfl
theorem insInner_rise (b a i : Nat) : ∀ (j : Nat) (d : Array α), j ≤ i → i < d.size → (∀ s t, a ≤ s → s < t → i < t → t < b → ix d[s]! < ix d[t]!) → ∀ s t, a ≤ s → s < t → i < t → t < b → ix (insInner lt a j d)[s]! < ix (insInner lt a j d)[t]!
  | 0, _, _, _, h => h
  | j + 1, d, hj, hi, h => by
    unfold insInner
    by_cases hl : (decide (j + 1 > a) && lt d[j + 1]! d[j]!) = true
    · rw [if_pos hl]
      have ha : j + 1 > a := by simp at hl; exact hl.1
      refine insInner_rise b a i j _ (by omega) (by rw [size_swp]; exact hi) fun s t h1 h2 h3 h4 => ?_
      rw [swp_get d (by omega) (by omega) s, swp_get d (by omega) (by omega) t]
      have e1 : t ≠ j := by omega
      have e2 : t ≠ j + 1 := by omega
      by_cases e3 : s = j
      · subst e3
        have := h (s + 1) t (by omega) (by omega) h3 h4
        simp [e1, e2, show ¬ s = s + 1 by omega]
        exact this
      · by_cases e4 : s = j + 1
        · subst e4
          have := h j t (by omega) (by omega) h3 h4
          simp [e1, e2]
          exact this
        · have := h s t h1 h2 h3 h4
          simp [e1, e2, e3, e4]
          exact this
    · rw [if_neg hl]; exact h
theorem insOuter_lex (a b : Nat) (hab : a ≤ b) : ∀ (n i : Nat) (d : Array α), b - i ≤ n → a < i → b ≤ d.size → (∀ s t, a ≤ s → s < t → i ≤ t → t < b → ix d[s]! < ix d[t]!) → insOuter (lexR lt ix) a b i d = insOuter lt a b i d
  | n, i, d, hn, hai, hb, h => by
    unfold insOuter
    by_cases hib : i < b
    · rw [if_pos hib, if_pos hib, insInner_lex a i d (by omega) (fun t h1 h2 => h t i h1 h2 (Nat.le_refl _) hib)]
      obtain ⟨n, rfl⟩ : ∃ m, n = m + 1 := ⟨n - 1, by omega⟩
      refine insOuter_lex a b hab n (i + 1) _ (by omega) (by omega) ?_ fun s t h1 h2 h3 h4 => ?_
      · rw [insInner_size]; exact hb
      · exact insInner_rise b a i i d (Nat.le_refl _) (by omega) (fun s t h1 h2 h3 h4 => h s t h1 h2 (by omega) h4) s t h1 h2 (by omega) h4
    · rw [if_neg hib, if_neg hib]
/-- Insertion sort of a stretch whose numbers rise: sorted by the order and the numbers. -/
theorem insertion_lex (hS : SWO lt) {d : Array α} {pre X post : List α} (hd : d.toList = pre ++ X ++ post) (hix : X.Pairwise fun x y => ix x < ix y) :
    ∃ X' : List α, (insertionSort lt d pre.length (pre.length + X.length)).toList = pre ++ X' ++ post ∧ X'.Perm X ∧ Srt (lexR lt ix) X' := by
  have hsz : d.size = pre.length + X.length + post.length := by
    have := congrArg List.length hd
    simp at this; omega
  have hget : ∀ s, s < X.length → d[pre.length + s]! = X[s]! := fun s hs => by
    rw [getElem!_pos d _ (by omega), getElem!_pos X s hs, ← Array.getElem_toList]
    simp only [hd]
    rw [List.getElem_append_left (by simp; omega), List.getElem_append_right (by omega)]
    congr 1
    omega
  have hle : insertionSort (lexR lt ix) d pre.length (pre.length + X.length) = insertionSort lt d pre.length (pre.length + X.length) := by
    unfold insertionSort
    refine insOuter_lex _ _ (by omega) _ _ d (Nat.le_refl _) (by omega) (by omega) fun s t h1 h2 h3 h4 => ?_
    obtain ⟨s', rfl⟩ := Nat.exists_eq_add_of_le h1
    obtain ⟨t', rfl⟩ := Nat.exists_eq_add_of_le (show pre.length ≤ t by omega)
    rw [hget s' (by omega), hget t' (by omega)]
    have := List.pairwise_iff_getElem.1 hix s' t' (by omega) (by omega) (by omega)
    rwa [getElem!_pos X s' (by omega), getElem!_pos X t' (by omega)]
  rw [← hle]
  obtain ⟨⟨p1, p2, p3⟩, p4⟩ := insertionSort_holds (lt := lexR lt ix) (swo_lex hS) d pre.length (pre.length + X.length) (by omega) (by omega)
  generalize insertionSort (lexR lt ix) d pre.length (pre.length + X.length) = d' at p1 p2 p3 p4 ⊢
  have cut : ∀ e : Array α, e.size = d.size → e.toList = e.toList.take pre.length ++ (e.extract pre.length (pre.length + X.length)).toList ++ e.toList.drop (pre.length + X.length) := fun e he => by
    rw [Array.toList_extract, List.extract_eq_take_drop]
    rw [show pre.length + X.length - pre.length = X.length by omega, List.append_assoc]
    conv => lhs; rw [← List.take_append_drop pre.length e.toList]
    congr 1
    rw [← List.drop_drop]
    exact (List.take_append_drop _ _).symm
  have hpre : d'.toList.take pre.length = pre := by
    refine List.ext_getElem (by simp; omega) fun i h1 h2 => ?_
    have hi : i < pre.length := by simpa using h2
    have e := p2 i (.inl hi)
    rw [getElem!_pos d' i (by omega), getElem!_pos d i (by omega), ← Array.getElem_toList, ← Array.getElem_toList] at e
    rw [List.getElem_take, e]
    simp only [hd]
    rw [List.getElem_append_left (by simp; omega), List.getElem_append_left hi]
  have hpost : d'.toList.drop (pre.length + X.length) = post := by
    refine List.ext_getElem (by simp; omega) fun i h1 h2 => ?_
    have e := p2 (pre.length + X.length + i) (.inr (by omega))
    rw [getElem!_pos d' _ (by omega), getElem!_pos d _ (by omega), ← Array.getElem_toList, ← Array.getElem_toList] at e
    rw [List.getElem_drop, e]
    simp only [hd]
    rw [List.getElem_append_right (by simp)]
    congr 1
    simp
  have hX : (d.extract pre.length (pre.length + X.length)).toList = X := by
    rw [Array.toList_extract, List.extract_eq_take_drop, hd, List.append_assoc, List.drop_left, show pre.length + X.length - pre.length = X.length by omega, List.take_left]
  refine ⟨(d'.extract pre.length (pre.length + X.length)).toList, ?_, by rw [hX] at p3; exact p3, ?_⟩
  · conv => lhs; rw [cut d' p1, hpre, hpost]
  · unfold Srt
    rw [List.pairwise_iff_getElem]
    intro i j hi hj hij
    have hi' : i < X.length := by simp at hi; omega
    have hj' : j < X.length := by simp at hj; omega
    have := p4 (pre.length + i) (pre.length + j) (by omega) (by omega) (by omega)
    rw [getElem!_pos d' _ (by omega), getElem!_pos d' _ (by omega)] at this
    simpa using this
end
end Go.Proofs.Yteccpmmedpkddaa
namespace Go.Proofs.Yteccpmmedpkddaa
open Go.RowKit Go.Sort

instance : Inhabited Sy := ⟨⟨⟨#[]⟩, 0, 0, false⟩⟩
/-- What a section holds. -/
structure ScC where
  name : ByteArray
  kind : Int
  align : Int
  size : Int
  data : List Int
  rel : List Rl
  deriving DecidableEq
def Sc.con (s : Sc) : ScC := ⟨s.name, s.kind, s.align, s.size, s.data, s.rel⟩
/-- What an object holds. -/
def Ob.con (o : Ob) : List ScC × List Sy := (o.secs.map Sc.con, o.syms)
/-! ### Bytes in order -/
theorem bl_irrefl : ∀ a : List UInt8, Op.bytesLess a a = false
  | [] => rfl
  | x :: a => by
    rw [Op.bytesLess, bl_irrefl a]
    simp
theorem u8_lt {a b : UInt8} : a < b ↔ a.toNat < b.toNat := UInt8.lt_iff_toNat_lt
theorem u8_eq {a b : UInt8} : a = b ↔ a.toNat = b.toNat := UInt8.toNat_inj.symm
theorem bl_trans : ∀ a b c : List UInt8, Op.bytesLess a b = true → Op.bytesLess b c = true → Op.bytesLess a c = true
  | [], [], _, h, _ => by cases h
  | [], _ :: _, [], _, h => by cases h
  | [], _ :: _, _ :: _, _, _ => rfl
  | _ :: _, [], _, h, _ => by cases h
  | _ :: _, _ :: _, [], _, h => by cases h
  | x :: a, y :: b, z :: c, h1, h2 => by
    rw [Op.bytesLess] at *
    simp only [Bool.or_eq_true, Bool.and_eq_true, decide_eq_true_eq, beq_iff_eq, u8_lt, u8_eq] at *
    rcases h1 with h1 | ⟨h1, e1⟩ <;> rcases h2 with h2 | ⟨h2, e2⟩
    · left; omega
    · left; omega
    · left; omega
    · right; exact ⟨by omega, bl_trans a b c e1 e2⟩
theorem bl_total : ∀ a b : List UInt8, Op.bytesLess a b = false → Op.bytesLess b a = false → a = b
  | [], [], _, _ => rfl
  | [], _ :: _, h, _ => by cases h
  | _ :: _, [], _, h => by cases h
  | x :: a, y :: b, h1, h2 => by
    rw [Op.bytesLess] at *
    simp only [Bool.or_eq_false_iff, Bool.and_eq_false_iff, decide_eq_false_iff_not, beq_eq_false_iff_ne, ne_eq, u8_lt, u8_eq] at *
    obtain ⟨h1, e1⟩ := h1
    obtain ⟨h2, e2⟩ := h2
    have e : x = y := by rw [u8_eq]; omega
    subst e
    rw [bl_total a b (by rcases e1 with e | e; exact absurd rfl e; exact e) (by rcases e2 with e | e; exact absurd rfl e; exact e)]
theorem cmp_bl : ∀ a b : List UInt8, decide (Lib.compareBytes a b < 0) = Op.bytesLess a b
  | [], [] => rfl
  | [], _ :: _ => rfl
  | _ :: _, [] => rfl
  | x :: a, y :: b => by
    rw [Op.bytesLess, Lib.compareBytes]
    by_cases h1 : x < y
    · simp [h1]
    · by_cases h2 : y < x
      · have h3 : ¬ x = y := by rintro rfl; exact h1 h2
        simp [h1, h2, h3]
      · have h3 : x = y := by rw [u8_eq]; rw [u8_lt] at h1 h2; omega
        subst h3
        rw [if_neg h1, if_neg h1, cmp_bl a b]
        simp
theorem ltOf_order : ltOf orderP = aheadP := by
  funext a b
  unfold ltOf orderP aheadP
  by_cases hg : a.glob = b.glob
  · rw [if_pos hg, if_pos hg, cmp_bl, Lib.toList_data, Lib.toList_data]
  · rw [if_neg hg, if_neg hg]
    cases hb : b.glob <;> simp
theorem ba_toList {a b : ByteArray} (h : a.toList = b.toList) : a = b := by
  apply Classical.byContradiction
  intro hn
  have := strNe hn
  simp [h] at this
theorem swo_ahead : SWO aheadP where
  irrefl x := by unfold aheadP; rw [if_pos rfl]; exact bl_irrefl _
  trans x y z h1 h2 := by
    unfold aheadP at *
    cases hx : x.glob <;> cases hy : y.glob <;> cases hz : z.glob <;> simp [hx, hy, hz] at h1 h2 ⊢
    · exact bl_trans _ _ _ h1 h2
    · exact bl_trans _ _ _ h1 h2
  ntrans x y z h1 h2 := by
    unfold aheadP at *
    have key : ∀ a b c : List UInt8, Op.bytesLess a b = false → Op.bytesLess b c = false → Op.bytesLess a c = false := fun a b c g1 g2 => by
      cases hac : Op.bytesLess a c
      · rfl
      · cases hba : Op.bytesLess b a
        · have := bl_total _ _ g1 hba; subst this; rw [g2] at hac; cases hac
        · have := bl_trans _ _ _ hba hac; rw [g2] at this; cases this
    cases hx : x.glob <;> cases hy : y.glob <;> cases hz : z.glob <;> simp [hx, hy, hz] at h1 h2 ⊢
    · exact key _ _ _ h1 h2
    · exact key _ _ _ h1 h2
/-- Neither ahead of the other: of one name and reach. -/
theorem ahead_alike {a b : Sy} (h1 : aheadP a b = false) (h2 : aheadP b a = false) : a.name = b.name ∧ a.glob = b.glob := by
  unfold aheadP at *
  cases ha : a.glob <;> cases hb : b.glob <;> simp [ha, hb] at h1 h2 ⊢
  · exact ba_toList (bl_total _ _ h1 h2)
  · exact ba_toList (bl_total _ _ h1 h2)
/-- Two lists in order that hold the same are one, where alike ones are equal. -/
theorem srt_one {α : Type} {R : α → α → Bool} : ∀ (a b : List α), a.Perm b → Srt R a → Srt R b → (∀ x ∈ a, ∀ y ∈ a, R x y = false → R y x = false → x = y) → a = b
  | [], b, h, _, _, _ => (List.nil_perm.1 h).symm
  | x :: a, b, h, ha, hb, ht => by
    cases b with
    | nil => exact absurd h.length_eq (by simp)
    | cons y b =>
      have hy : y ∈ x :: a := h.symm.subset (List.mem_cons_self ..)
      have hxy : x = y := by
        have h1 : x ∈ y :: b := h.subset (List.mem_cons_self ..)
        rcases List.mem_cons.1 h1 with e | e
        · exact e
        · rcases List.mem_cons.1 hy with e2 | e2
          · exact e2.symm
          · exact ht x (List.mem_cons_self ..) y hy ((List.pairwise_cons.1 hb).1 x e) ((List.pairwise_cons.1 ha).1 y e2)
      subst hxy
      rw [srt_one a b (List.Perm.cons_inv h) (List.pairwise_cons.1 ha).2 (List.pairwise_cons.1 hb).2 (fun x hx y hy => ht x (List.mem_cons_of_mem _ hx) y (List.mem_cons_of_mem _ hy))]
/-! ### The symbols' numbers in order, by putting each behind all that it is not ahead of -/
def insNo (ahead : Nat → Nat → Bool) (i : Nat) (l : List Nat) : List Nat := l.takeWhile (fun k => !ahead i k) ++ i :: l.dropWhile (fun k => !ahead i k)
def atSy (l : List Sy) (i : Nat) : Sy := l.getD i default
def ordTo (l : List Sy) : Nat → List Nat
  | 0 => []
  | i + 1 => insNo (fun a b => aheadP (atSy l a) (atSy l b)) i (ordTo l i)
def ordP (l : List Sy) : List Nat := ordTo l l.length
theorem ins_perm (ahead : Nat → Nat → Bool) (i : Nat) (l : List Nat) : (insNo ahead i l).Perm (i :: l) := by
  unfold insNo
  refine List.perm_middle.trans ?_
  rw [List.takeWhile_append_dropWhile]
theorem ordTo_perm (l : List Sy) : ∀ n, (ordTo l n).Perm (List.range n)
  | 0 => List.Perm.refl _
  | n + 1 => by
    unfold ordTo
    rw [List.range_succ]
    exact (ins_perm _ n _).trans (((ordTo_perm l n).cons n).trans (List.perm_append_singleton n _).symm)
/-- Numbers in order: ahead, or alike and the smaller one. -/
def noR (l : List Sy) : Nat → Nat → Bool := lexR (fun a b => aheadP (atSy l a) (atSy l b)) id
theorem swo_no (l : List Sy) : SWO (noR l) := swo_lex ⟨fun x => swo_ahead.irrefl _, fun x y z => swo_ahead.trans _ _ _, fun x y z => swo_ahead.ntrans _ _ _⟩
theorem take_all {α : Type} (p : α → Bool) : ∀ (l : List α), ∀ x ∈ l.takeWhile p, p x = true
  | [], _, h => by cases h
  | a :: l, x, h => by
    rw [List.takeWhile_cons] at h
    split at h
    · rename_i hp
      rcases List.mem_cons.1 h with rfl | h
      · exact hp
      · exact take_all p l x h
    · cases h
theorem ordTo_srt (l : List Sy) : ∀ n, Srt (noR l) (ordTo l n)
  | 0 => List.Pairwise.nil
  | n + 1 => by
    have ih := ordTo_srt l n
    have hm : ∀ k ∈ ordTo l n, k < n := fun k hk => List.mem_range.1 ((ordTo_perm l n).subset hk)
    unfold ordTo insNo
    obtain ⟨A, hA⟩ : ∃ A, A = (ordTo l n).takeWhile (fun k => !aheadP (atSy l n) (atSy l k)) := ⟨_, rfl⟩
    obtain ⟨B, hB⟩ : ∃ B, B = (ordTo l n).dropWhile (fun k => !aheadP (atSy l n) (atSy l k)) := ⟨_, rfl⟩
    have hAB : A ++ B = ordTo l n := by rw [hA, hB, List.takeWhile_append_dropWhile]
    rw [← hA, ← hB]
    rw [← hAB] at ih hm
    obtain ⟨s1, s2, s3⟩ := srt_app.1 ih
    have hcross : ∀ k, k < n → noR l n k = aheadP (atSy l n) (atSy l k) := fun k hk => by unfold noR; exact lex_cross (ix := id) hk
    have hA1 : ∀ k ∈ A, noR l n k = false := fun k hk => by
      rw [hcross k (hm k (List.mem_append_left _ hk))]
      rw [hA] at hk
      have := take_all _ _ k hk
      simpa using this
    have hB1 : ∀ k ∈ B, noR l k n = false := fun k hk => by
      cases hBc : B with
      | nil => rw [hBc] at hk; cases hk
      | cons b B' =>
        have hb : noR l n b = true := by
          have hbm : b < n := hm b (by rw [hBc]; simp)
          rw [hcross b hbm]
          have := List.head_dropWhile_not (p := fun k => !aheadP (atSy l n) (atSy l k)) (l := ordTo l n) (by rw [← hB, hBc]; simp)
          simp only [← hB, hBc, List.head_cons] at this
          simpa using this
        rw [hBc] at hk s2
        have hbk : noR l k b = false := by
          rcases List.mem_cons.1 hk with rfl | h
          · exact (swo_no l).irrefl _
          · exact (List.pairwise_cons.1 s2).1 k h
        exact (swo_no l).ntrans _ _ _ hbk (swo_asymm (swo_no l) hb)
    refine srt_app.2 ⟨s1, List.pairwise_cons.2 ⟨hB1, s2⟩, fun x hx y hy => ?_⟩
    rcases List.mem_cons.1 hy with rfl | h
    · exact hA1 x hx
    · exact s3 x hx y h
theorem ordP_perm (l : List Sy) : (ordP l).Perm (List.range l.length) := ordTo_perm l _
theorem ordP_srt (l : List Sy) : Srt (noR l) (ordP l) := ordTo_srt l _
theorem no_anti (l : List Sy) {x y : Nat} (h1 : noR l x y = false) (h2 : noR l y x = false) : x = y := by
  unfold noR lexR at *
  simp only [Bool.or_eq_false_iff, Bool.and_eq_false_iff, Bool.not_eq_false', decide_eq_false_iff_not, id] at h1 h2
  obtain ⟨a1, b1⟩ := h1
  obtain ⟨a2, b2⟩ := h2
  rw [a2] at b1
  rw [a1] at b2
  simp at b1 b2
  omega
/-- The numbers in order are these alone. -/
theorem ordP_one (l : List Sy) {z : List Nat} (hp : z.Perm (List.range l.length)) (hs : Srt (noR l) z) : z = ordP l :=
  srt_one z _ (hp.trans (ordP_perm l).symm) hs (ordP_srt l) (fun _ _ _ _ => no_anti l)
end Go.Proofs.Yteccpmmedpkddaa
namespace Go.Proofs.Yteccpmmedpkddaa
open Go.RowKit
variable {W W' w w' : World}

set_option maxRecDepth 20000 in
theorem run_neq_rl (a b : Rl) (w : World) : (binOp .neq 54 (.agg #[.int .i64 a.off, .int .i64 a.ty, .int .i64 a.sym, .int .i64 a.add]) (.agg #[.int .i64 b.off, .int .i64 b.ty, .int .i64 b.sym, .int .i64 b.add])).run Try.prog w = .ok (.bool (!decide (a = b))) w := by
  obtain ⟨a0, a1, a2, a3⟩ := a
  obtain ⟨b0, b1, b2, b3⟩ := b
  by_cases h0 : a0 = b0 <;> by_cases h1 : a1 = b1 <;> by_cases h2 : a2 = b2 <;> by_cases h3 : a3 = b3
  all_goals simp only [Rl.mk.injEq, h0, h1, h2, h3, and_true, true_and, and_self, and_false, false_and, decide_true, decide_false, Bool.not_true, Bool.not_false]
  all_goals go_simp
set_option maxRecDepth 20000 in
theorem run_neq_sy (a b : Sy) (w : World) : (binOp .neq 36 (.agg #[.string a.name, .int .i64 a.sec, .int .i64 a.val, .bool a.glob]) (.agg #[.string b.name, .int .i64 b.sec, .int .i64 b.val, .bool b.glob])).run Try.prog w = .ok (.bool (!decide (a = b))) w := by
  obtain ⟨a0, a1, a2, a3⟩ := a
  obtain ⟨b0, b1, b2, b3⟩ := b
  by_cases h0 : a0 = b0
  · have e0 := strEq h0
    subst h0
    by_cases h1 : a1 = b1 <;> by_cases h2 : a2 = b2 <;> by_cases h3 : a3 = b3
    all_goals simp only [Sy.mk.injEq, h1, h2, h3, and_true, true_and, and_self, and_false, false_and, decide_true, decide_false, Bool.not_true, Bool.not_false]
    all_goals go_simp
  · have e0 := strNe h0
    simp only [Sy.mk.injEq, h0, false_and, decide_false, Bool.not_false]
    go_simp
end Go.Proofs.Yteccpmmedpkddaa
namespace Go.Proofs.Yteccpmmedpkddaa
open Go.RowKit
variable {w w' : World}
set_option maxRecDepth 20000 in
set_option maxHeartbeats 4000000 in
theorem rrels_any (pa pb : Option Addr) (ca cb : Nat) (l m : List Rl) (W : World) (h1 : Row W pa (l.flatMap Rl.cells)) (h2 : Row W pb (m.flatMap Rl.cells)) (hl : l.length ≤ 4398046510976) (hm : m.length ≤ 4398046510976) :
    Calls Try.prog 72 #[.slice pa l.length ca, .slice pb m.length cb] W fun e w' => e = .returned (.bool (decide (l = m))) ∧ Below W.heap.size W w' := by
  have HH := hid (And.intro h1 h2)
  obtain ⟨N, hN⟩ : ∃ N, N = l.length := ⟨_, rfl⟩
  obtain ⟨M, hM⟩ : ∃ N, N = m.length := ⟨_, rfl⟩
  rw [← hN] at hl ⊢
  rw [← hM] at hm ⊢
  have HN := hid (And.intro hN hM)
  obtain ⟨B, hB⟩ : ∃ B, B = decide (l = m) := ⟨_, rfl⟩
  have HB := hid hB
  rw [← hB]
  clear h1 h2 hN hM hB
  have hb0 : Below W.heap.size W W := Below.refl _ _
  by_cases hlen : N = M
  case neg =>
    have hBf : Hid (B = false) := by
      show _ = _
      rw [HB.out]; refine decide_eq_false fun e => hlen ?_
      rw [HN.out.1, HN.out.2, e]
    have hz : ¬ (N : Int) = (M : Int) := by omega
    go_enter Try.func72, Try.ntmps72
    go_wp2
    go_ret
    exact ⟨ret_bool hBf.out.symm, Below.refl _ _⟩
  subst hlen
  go_enter Try.func72, Try.ntmps72
  go_wp2_with (fail)
  go_loopw [5] (fun i wr => ∃ (k : Nat), k ≤ N ∧ i = .int .i64 k ∧ Below W.heap.size W wr ∧ ∀ j, j < k → l[j]? = m[j]?) (fun i _ => N - (intOf i).toNat)
  case atStart => exact ⟨0, by omega, rfl, hb0, fun j h => absurd h (Nat.not_lt_zero _)⟩
  case round =>
    rename World => wr
    obtain ⟨k, hk, rfl, hbw, heq⟩ := hrel
    have HQ := hid heq
    clear hb0 heq
    have HBW := hid hbw
    by_cases hlt : k < N
    · have hkI : (k : Int) < N := by omega
      have k1 : k < l.length := by rw [← HN.out.1]; exact hlt
      have k2 : k < m.length := by rw [← HN.out.2]; exact hlt
      have rA := HH.out.1
      have rB := HH.out.2
      obtain ⟨b1, o1, rfl, hbl1, -⟩ := rA.at (by rw [flat_len Rl.cells 4 (fun _ => rfl)]; omega)
      obtain ⟨b2, o2, rfl, hbl2, -⟩ := rB.at (by rw [flat_len Rl.cells 4 (fun _ => rfl)]; omega)
      have A := fun (w' : World) (hw : Below W.heap.size W w') => rl_cells (rA.below hw) k k1
      have D := fun (w' : World) (hw : Below W.heap.size W w') => rl_cells (rB.below hw) k k2
      have HX : Hid (l[k]? = some l[k] ∧ m[k]? = some m[k]) := ⟨List.getElem?_eq_getElem k1, List.getElem?_eq_getElem k2⟩
      clear rA rB
      generalize l[k] = x at A HX
      generalize m[k] = y at D HX
      have hne := run_neq_rl x y
      obtain ⟨q, hq⟩ : ∃ q, q = (!decide (x = y)) := ⟨_, rfl⟩
      have HQQ := hid hq
      rw [← hq] at hne
      have e0 := fun w' hw => (A w' hw).1
      have e1 := fun w' hw => (A w' hw).2.1
      have e2 := fun w' hw => (A w' hw).2.2.1
      have e3 := fun w' hw => (A w' hw).2.2.2
      have f0 := fun w' hw => (D w' hw).1
      have f1 := fun w' hw => (D w' hw).2.1
      have f2 := fun w' hw => (D w' hw).2.2.1
      have f3 := fun w' hw => (D w' hw).2.2.2
      clear A D hq
      cases q with
      | true =>
        have hBf : Hid (B = false) := by
          show _ = _
          rw [HB.out]; refine decide_eq_false fun e => ?_
          subst e
          have e2 := HX.out.1.symm.trans HX.out.2
          have e3 : x = y := Option.some.inj e2
          have := HQQ.out
          rw [decide_eq_true e3] at this; cases this
        go_wp2_with (fail)
        go_upto_region 6 with (fail)
        go_region_held3 (fun w' => Below W.heap.size W w') (first | (with_reducible assumption) | exact hbw.drew) (first | fail)
        go_wp2_with (fail)
        go_ret
        exact ⟨ret_bool hBf.out.symm, HBW.out.drew⟩
      | false =>
        have hxy : Hid (x = y) := by
          have := HQQ.out
          show _ = _
          apply Classical.byContradiction
          intro hn
          rw [decide_eq_false hn] at this; cases this
        go_wp2_with (fail)
        go_upto_region 6 with (fail)
        go_region_held3 (fun w' => Below W.heap.size W w') (first | (with_reducible assumption) | exact hbw.drew) (first | fail)
        go_wp2_with (fail)
        exact ⟨⟨k + 1, by omega, by go_num, HBW.out.drew, fun j hj => by
          by_cases e : j = k
          · subst e; rw [HX.out.1, HX.out.2, hxy.out]
          · exact HQ.out j (by omega)⟩, by simp [intOf]; omega⟩
    · have hke : k = N := by omega
      subst hke
      have hBt : Hid (B = true) := by
        show _ = _
        rw [HB.out]; refine decide_eq_true (List.ext_getElem? fun j => ?_)
        by_cases hj : j < k
        · exact HQ.out j hj
        · rw [List.getElem?_eq_none (by have := HN.out.1; omega), List.getElem?_eq_none (by have := HN.out.2; omega)]
      go_wp2_with (fail)
      go_ret
      exact ⟨ret_bool hBt.out.symm, HBW.out⟩
set_option maxRecDepth 20000 in
set_option maxHeartbeats 4000000 in
theorem erels_any (pa pb : Option Addr) (ca cb : Nat) (l m : List Rl) (W : World) (h1 : Row W pa (l.flatMap Rl.cells)) (h2 : Row W pb (m.flatMap Rl.cells)) (hl : l.length ≤ 4398046510976) (hm : m.length ≤ 4398046510976) :
    Calls Try.prog 74 #[.slice pa l.length ca, .slice pb m.length cb] W fun e w' => e = .returned (.bool (decide (l = m))) ∧ Below W.heap.size W w' := by
  have HH := hid (And.intro h1 h2)
  obtain ⟨N, hN⟩ : ∃ N, N = l.length := ⟨_, rfl⟩
  obtain ⟨M, hM⟩ : ∃ N, N = m.length := ⟨_, rfl⟩
  rw [← hN] at hl ⊢
  rw [← hM] at hm ⊢
  have HN := hid (And.intro hN hM)
  obtain ⟨B, hB⟩ : ∃ B, B = decide (l = m) := ⟨_, rfl⟩
  have HB := hid hB
  rw [← hB]
  clear h1 h2 hN hM hB
  have hb0 : Below W.heap.size W W := Below.refl _ _
  by_cases hlen : N = M
  case neg =>
    have hBf : Hid (B = false) := by
      show _ = _
      rw [HB.out]; refine decide_eq_false fun e => hlen ?_
      rw [HN.out.1, HN.out.2, e]
    have hz : ¬ (N : Int) = (M : Int) := by omega
    go_enter Try.func74, Try.ntmps74
    go_wp2
    go_ret
    exact ⟨ret_bool hBf.out.symm, Below.refl _ _⟩
  subst hlen
  go_enter Try.func74, Try.ntmps74
  go_wp2_with (fail)
  go_loopw [13] (fun i wr => ∃ (k : Nat), k ≤ N ∧ i = .int .i64 k ∧ Below W.heap.size W wr ∧ ∀ j, j < k → l[j]? = m[j]?) (fun i _ => N - (intOf i).toNat)
  case atStart => exact ⟨0, by omega, rfl, hb0, fun j h => absurd h (Nat.not_lt_zero _)⟩
  case round =>
    rename World => wr
    obtain ⟨k, hk, rfl, hbw, heq⟩ := hrel
    have HQ := hid heq
    clear hb0 heq
    have HBW := hid hbw
    by_cases hlt : k < N
    · have hkI : (k : Int) < N := by omega
      have k1 : k < l.length := by rw [← HN.out.1]; exact hlt
      have k2 : k < m.length := by rw [← HN.out.2]; exact hlt
      have rA := HH.out.1
      have rB := HH.out.2
      obtain ⟨b1, o1, rfl, hbl1, -⟩ := rA.at (by rw [flat_len Rl.cells 4 (fun _ => rfl)]; omega)
      obtain ⟨b2, o2, rfl, hbl2, -⟩ := rB.at (by rw [flat_len Rl.cells 4 (fun _ => rfl)]; omega)
      have A := fun (w' : World) (hw : Below W.heap.size W w') => rl_cells (rA.below hw) k k1
      have D := fun (w' : World) (hw : Below W.heap.size W w') => rl_cells (rB.below hw) k k2
      have HX : Hid (l[k]? = some l[k] ∧ m[k]? = some m[k]) := ⟨List.getElem?_eq_getElem k1, List.getElem?_eq_getElem k2⟩
      clear rA rB
      generalize l[k] = x at A HX
      generalize m[k] = y at D HX
      have hne := run_neq_rl x y
      obtain ⟨q, hq⟩ : ∃ q, q = (!decide (x = y)) := ⟨_, rfl⟩
      have HQQ := hid hq
      rw [← hq] at hne
      have e0 := fun w' hw => (A w' hw).1
      have e1 := fun w' hw => (A w' hw).2.1
      have e2 := fun w' hw => (A w' hw).2.2.1
      have e3 := fun w' hw => (A w' hw).2.2.2
      have f0 := fun w' hw => (D w' hw).1
      have f1 := fun w' hw => (D w' hw).2.1
      have f2 := fun w' hw => (D w' hw).2.2.1
      have f3 := fun w' hw => (D w' hw).2.2.2
      clear A D hq
      cases q with
      | true =>
        have hBf : Hid (B = false) := by
          show _ = _
          rw [HB.out]; refine decide_eq_false fun e => ?_
          subst e
          have e2 := HX.out.1.symm.trans HX.out.2
          have e3 : x = y := Option.some.inj e2
          have := HQQ.out
          rw [decide_eq_true e3] at this; cases this
        go_wp2_with (fail)
        go_upto_region 6 with (fail)
        go_region_held3 (fun w' => Below W.heap.size W w') (first | (with_reducible assumption) | exact hbw.drew) (first | fail)
        go_wp2_with (fail)
        go_ret
        exact ⟨ret_bool hBf.out.symm, HBW.out.drew⟩
      | false =>
        have hxy : Hid (x = y) := by
          have := HQQ.out
          show _ = _
          apply Classical.byContradiction
          intro hn
          rw [decide_eq_false hn] at this; cases this
        go_wp2_with (fail)
        go_upto_region 6 with (fail)
        go_region_held3 (fun w' => Below W.heap.size W w') (first | (with_reducible assumption) | exact hbw.drew) (first | fail)
        go_wp2_with (fail)
        exact ⟨⟨k + 1, by omega, by go_num, HBW.out.drew, fun j hj => by
          by_cases e : j = k
          · subst e; rw [HX.out.1, HX.out.2, hxy.out]
          · exact HQ.out j (by omega)⟩, by simp [intOf]; omega⟩
    · have hke : k = N := by omega
      subst hke
      have hBt : Hid (B = true) := by
        show _ = _
        rw [HB.out]; refine decide_eq_true (List.ext_getElem? fun j => ?_)
        by_cases hj : j < k
        · exact HQ.out j hj
        · rw [List.getElem?_eq_none (by have := HN.out.1; omega), List.getElem?_eq_none (by have := HN.out.2; omega)]
      go_wp2_with (fail)
      go_ret
      exact ⟨ret_bool hBt.out.symm, HBW.out⟩
set_option maxRecDepth 20000 in
set_option maxHeartbeats 4000000 in
theorem esyms_any (pa pb : Option Addr) (ca cb : Nat) (l m : List Sy) (W : World) (h1 : Row W pa (l.flatMap Sy.cells)) (h2 : Row W pb (m.flatMap Sy.cells)) (hl : l.length ≤ 4398046510976) (hm : m.length ≤ 4398046510976) :
    Calls Try.prog 33 #[.slice pa l.length ca, .slice pb m.length cb] W fun e w' => e = .returned (.bool (decide (l = m))) ∧ Below W.heap.size W w' := by
  have HH := hid (And.intro h1 h2)
  obtain ⟨N, hN⟩ : ∃ N, N = l.length := ⟨_, rfl⟩
  obtain ⟨M, hM⟩ : ∃ N, N = m.length := ⟨_, rfl⟩
  rw [← hN] at hl ⊢
  rw [← hM] at hm ⊢
  have HN := hid (And.intro hN hM)
  obtain ⟨B, hB⟩ : ∃ B, B = decide (l = m) := ⟨_, rfl⟩
  have HB := hid hB
  rw [← hB]
  clear h1 h2 hN hM hB
  have hb0 : Below W.heap.size W W := Below.refl _ _
  by_cases hlen : N = M
  case neg =>
    have hBf : Hid (B = false) := by
      show _ = _
      rw [HB.out]; refine decide_eq_false fun e => hlen ?_
      rw [HN.out.1, HN.out.2, e]
    have hz : ¬ (N : Int) = (M : Int) := by omega
    go_enter Try.func33, Try.ntmps33
    go_wp2
    go_ret
    exact ⟨ret_bool hBf.out.symm, Below.refl _ _⟩
  subst hlen
  go_enter Try.func33, Try.ntmps33
  go_wp2_with (fail)
  go_loopw [13] (fun i wr => ∃ (k : Nat), k ≤ N ∧ i = .int .i64 k ∧ Below W.heap.size W wr ∧ ∀ j, j < k → l[j]? = m[j]?) (fun i _ => N - (intOf i).toNat)
  case atStart => exact ⟨0, by omega, rfl, hb0, fun j h => absurd h (Nat.not_lt_zero _)⟩
  case round =>
    rename World => wr
    obtain ⟨k, hk, rfl, hbw, heq⟩ := hrel
    have HQ := hid heq
    clear hb0 heq
    have HBW := hid hbw
    by_cases hlt : k < N
    · have hkI : (k : Int) < N := by omega
      have k1 : k < l.length := by rw [← HN.out.1]; exact hlt
      have k2 : k < m.length := by rw [← HN.out.2]; exact hlt
      have rA := HH.out.1
      have rB := HH.out.2
      obtain ⟨b1, o1, rfl, hbl1, -⟩ := rA.at (by rw [flat_len Sy.cells 4 (fun _ => rfl)]; omega)
      obtain ⟨b2, o2, rfl, hbl2, -⟩ := rB.at (by rw [flat_len Sy.cells 4 (fun _ => rfl)]; omega)
      have A := fun (w' : World) (hw : Below W.heap.size W w') => sy_cells (rA.below hw) k k1
      have D := fun (w' : World) (hw : Below W.heap.size W w') => sy_cells (rB.below hw) k k2
      have HX : Hid (l[k]? = some l[k] ∧ m[k]? = some m[k]) := ⟨List.getElem?_eq_getElem k1, List.getElem?_eq_getElem k2⟩
      clear rA rB
      generalize l[k] = x at A HX
      generalize m[k] = y at D HX
      have hne := run_neq_sy x y
      obtain ⟨q, hq⟩ : ∃ q, q = (!decide (x = y)) := ⟨_, rfl⟩
      have HQQ := hid hq
      rw [← hq] at hne
      have e0 := fun w' hw => (A w' hw).1
      have e1 := fun w' hw => (A w' hw).2.1
      have e2 := fun w' hw => (A w' hw).2.2.1
      have e3 := fun w' hw => (A w' hw).2.2.2
      have f0 := fun w' hw => (D w' hw).1
      have f1 := fun w' hw => (D w' hw).2.1
      have f2 := fun w' hw => (D w' hw).2.2.1
      have f3 := fun w' hw => (D w' hw).2.2.2
      clear A D hq
      cases q with
      | true =>
        have hBf : Hid (B = false) := by
          show _ = _
          rw [HB.out]; refine decide_eq_false fun e => ?_
          subst e
          have e2 := HX.out.1.symm.trans HX.out.2
          have e3 : x = y := Option.some.inj e2
          have := HQQ.out
          rw [decide_eq_true e3] at this; cases this
        go_wp2_with (fail)
        go_upto_region 6 with (fail)
        go_region_held3 (fun w' => Below W.heap.size W w') (first | (with_reducible assumption) | exact hbw.drew) (first | fail)
        go_wp2_with (fail)
        go_ret
        exact ⟨ret_bool hBf.out.symm, HBW.out.drew⟩
      | false =>
        have hxy : Hid (x = y) := by
          have := HQQ.out
          show _ = _
          apply Classical.byContradiction
          intro hn
          rw [decide_eq_false hn] at this; cases this
        go_wp2_with (fail)
        go_upto_region 6 with (fail)
        go_region_held3 (fun w' => Below W.heap.size W w') (first | (with_reducible assumption) | exact hbw.drew) (first | fail)
        go_wp2_with (fail)
        exact ⟨⟨k + 1, by omega, by go_num, HBW.out.drew, fun j hj => by
          by_cases e : j = k
          · subst e; rw [HX.out.1, HX.out.2, hxy.out]
          · exact HQ.out j (by omega)⟩, by simp [intOf]; omega⟩
    · have hke : k = N := by omega
      subst hke
      have hBt : Hid (B = true) := by
        show _ = _
        rw [HB.out]; refine decide_eq_true (List.ext_getElem? fun j => ?_)
        by_cases hj : j < k
        · exact HQ.out j hj
        · rw [List.getElem?_eq_none (by have := HN.out.1; omega), List.getElem?_eq_none (by have := HN.out.2; omega)]
      go_wp2_with (fail)
      go_ret
      exact ⟨ret_bool hBt.out.symm, HBW.out⟩
end Go.Proofs.Yteccpmmedpkddaa
