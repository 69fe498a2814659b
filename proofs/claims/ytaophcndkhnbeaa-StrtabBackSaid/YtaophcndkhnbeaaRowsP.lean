/-
  What stands between the bytes 0 of a table, as plain functions on lists; whether bytes are a table, told in the code's way and in the document's, and that both are one.
-/
import Derived.Test.YtaophcndkhnbeaaPlain3
namespace Go.Proofs.Ytaophcndkhnbeaa

/-- The pieces of a list of bytes that end at a byte 0, and where they begin; cur: the beginning of the first that has been read. -/
def pieces : List UInt8 → Nat → List UInt8 → List (Nat × ByteArray)
  | [], _, _ => []
  | b :: r, a, cur => if b = 0 then (a, ⟨cur.toArray⟩) :: pieces r (a + cur.length + 1) [] else pieces r a (cur ++ [b])
def rowsP (tab : List UInt8) : List (Nat × ByteArray) := pieces (tab.drop 1) 1 []
def upTo (l : List UInt8) : List UInt8 := l.takeWhile (· != 0)

theorem pieces_zero (r : List UInt8) (a : Nat) (cur : List UInt8) : pieces (0 :: r) a cur = (a, ⟨cur.toArray⟩) :: pieces r (a + cur.length + 1) [] := by simp [pieces]
theorem pieces_more (b : UInt8) (hb : b ≠ 0) (r : List UInt8) (a : Nat) (cur : List UInt8) : pieces (b :: r) a cur = pieces r a (cur ++ [b]) := by simp [pieces, hb]
theorem pieces_none (l : List UInt8) (h : ∀ b ∈ l, b ≠ 0) (a : Nat) (cur : List UInt8) : pieces l a cur = [] := by
  induction l generalizing cur with
  | nil => rfl
  | cons b r ih => rw [pieces_more b (h b (by simp))]; exact ih (fun x hx => h x (by simp [hx])) _
theorem pieces_run (xs : List UInt8) (h : ∀ b ∈ xs, b ≠ 0) (ys : List UInt8) (a : Nat) (cur : List UInt8) : pieces (xs ++ ys) a cur = pieces ys a (cur ++ xs) := by
  induction xs generalizing cur with
  | nil => simp
  | cons b r ih => rw [List.cons_append, pieces_more b (h b (by simp)), ih (fun x hx => h x (by simp [hx]))]; simp

/-- A piece more, behind a list that ends at its pieces' ends. -/
theorem pieces_snoc (l : List UInt8) (a : Nat) (cur n : List UInt8) (hn : ∀ b ∈ n, b ≠ 0) (hl : l.getLast? = some 0 ∨ (l = [] ∧ cur = [])) :
    pieces (l ++ n ++ [0]) a cur = pieces l a cur ++ [(a + cur.length + l.length, ⟨n.toArray⟩)] := by
  induction l generalizing a cur with
  | nil =>
    rcases hl with h | ⟨_, rfl⟩
    · simp at h
    · rw [List.nil_append, pieces_run n hn, pieces_zero]; simp [pieces]
  | cons b r ih =>
    by_cases hr : r = []
    · subst hr
      rcases hl with h | ⟨h, _⟩
      · simp at h; subst h
        rw [List.cons_append, List.nil_append, List.cons_append, pieces_zero, pieces_zero, pieces_run n hn, pieces_zero]
        simp [pieces]
      · cases h
    · have hl' : r.getLast? = some 0 := by
        rcases hl with h | ⟨h, _⟩
        · rwa [List.getLast?_cons_of_ne_nil hr] at h
        · cases h
      by_cases hb : b = 0
      · subst hb
        rw [List.cons_append, List.cons_append, pieces_zero, pieces_zero, ih _ _ (.inl hl')]
        simp; omega
      · rw [List.cons_append, List.cons_append, pieces_more b hb, pieces_more b hb, ih _ _ (.inl hl')]
        simp; omega

/-- Each piece has no byte 0, begins where it is said, and ends at a byte 0. -/
theorem pieces_mem (l : List UInt8) (a : Nat) (cur pre : List UInt8) (hp : pre.length = a) (hc : ∀ b ∈ cur, b ≠ 0) (p : Nat) (n : ByteArray) (h : (p, n) ∈ pieces l a cur) :
    (∀ b ∈ n.data.toList, b ≠ 0) ∧ p + n.size < (pre ++ cur ++ l).length ∧ upTo ((pre ++ cur ++ l).drop p) = n.data.toList := by
  induction l generalizing a cur pre with
  | nil => simp [pieces] at h
  | cons b r ih =>
    by_cases hb : b = 0
    · subst hb
      rw [pieces_zero] at h
      rcases List.mem_cons.1 h with h | h
      · cases h
        refine ⟨by simpa using hc, by simp [ByteArray.size]; omega, ?_⟩
        rw [List.append_assoc, ← hp, List.drop_left, upTo]
        rw [List.takeWhile_append_of_pos (by simpa using hc)]
        simp
      · have := ih (a + cur.length + 1) [] (pre ++ cur ++ [0]) (by simp; omega) (by simp) h
        simpa using this
    · rw [pieces_more b hb] at h
      have := ih a (cur ++ [b]) pre hp (by intro x hx; rcases List.mem_append.1 hx with hx | hx; exact hc x hx; simp at hx; subst hx; exact hb) h
      simpa using this

theorem rowsP_mem (t : List UInt8) (b : UInt8) (p : Nat) (n : ByteArray) (h : (p, n) ∈ rowsP (b :: t)) :
    (∀ b ∈ n.data.toList, b ≠ 0) ∧ p + n.size < (b :: t).length ∧ upTo ((b :: t).drop p) = n.data.toList := by
  have := pieces_mem t 1 [] [b] rfl (by simp) p n (by simpa [rowsP] using h)
  simpa using this

/-- A list of bytes is its pieces, each with a byte 0 behind it, if it ends with one. -/
theorem pieces_flat (l : List UInt8) (a : Nat) (cur : List UInt8) (hl : l.getLast? = some 0 ∨ (l = [] ∧ cur = [])) :
    cur ++ l = (pieces l a cur).flatMap (fun r => r.2.data.toList ++ [0]) := by
  induction l generalizing a cur with
  | nil =>
    rcases hl with h | ⟨_, rfl⟩
    · simp at h
    · simp [pieces]
  | cons b r ih =>
    by_cases hr : r = []
    · subst hr
      rcases hl with h | ⟨h, _⟩
      · simp at h; subst h; simp [pieces]
      · cases h
    · have hl' : r.getLast? = some 0 := by
        rcases hl with h | ⟨h, _⟩
        · rwa [List.getLast?_cons_of_ne_nil hr] at h
        · cases h
      by_cases hb : b = 0
      · subst hb
        rw [pieces_zero, List.flatMap_cons, ← ih _ [] (.inl hl')]
        simp
      · rw [pieces_more b hb, ← ih _ _ (.inl hl')]
        simp

def namesP (tab : List UInt8) : List ByteArray := (rowsP tab).map (·.2)
/-- It begins and ends with a byte 0. -/
def ends0 (tab : List UInt8) : Bool := tab.head? == some 0 && tab.getLast? == some 0
/-- The code's word: long, or an unlike beginning or end, or a name twice or empty. -/
def chkC (tab : List UInt8) : Int := if 1048576 < tab.length then 3 else if ends0 tab = false then 190 else if (ByteArray.empty :: namesP tab).Nodup then 0 else 190
/-- The document's. -/
def chkR (tab : List UInt8) : Int := if 1048576 < tab.length then 3 else if (buildP (namesP tab)).2.2 = 0 ∧ (buildP (namesP tab)).1 = tab then 0 else 190
def findRow (rs : List (Nat × ByteArray)) (x : ByteArray) : Option Int := (rs.find? (fun r => decide (r.2 = x))).map (fun r => (r.1 : Int))

theorem ends0_snoc (tab n : List UInt8) (h : ends0 tab = true) : ends0 (tab ++ n ++ [0]) = true := by
  simp only [ends0, Bool.and_eq_true, beq_iff_eq] at *
  cases tab with
  | nil => simp at h
  | cons b r => exact ⟨by simpa using h.1, List.getLast?_concat⟩
theorem rowsP_snoc (tab : List UInt8) (n : ByteArray) (h : ends0 tab = true) (hn : ∀ b ∈ n.data.toList, b ≠ 0) : rowsP (tab ++ n.data.toList ++ [0]) = rowsP tab ++ [(tab.length, n)] := by
  simp only [ends0, Bool.and_eq_true, beq_iff_eq] at h
  cases tab with
  | nil => simp at h
  | cons b r =>
    simp only [rowsP, List.cons_append, List.drop_succ_cons, List.drop_zero]
    rw [pieces_snoc r 1 [] n.data.toList hn]
    · simp; omega
    · by_cases hr : r = []
      · exact .inr ⟨hr, rfl⟩
      · rw [List.getLast?_cons_of_ne_nil hr] at h; exact .inl h.2
theorem tab_flat (tab : List UInt8) (h : ends0 tab = true) : tab = 0 :: (namesP tab).flatMap (fun n => n.data.toList ++ [0]) := by
  simp only [ends0, Bool.and_eq_true, beq_iff_eq] at h
  cases tab with
  | nil => simp at h
  | cons b r =>
    have hb : b = 0 := by simpa using h.1
    subst hb
    have := pieces_flat r 1 [] (by
      by_cases hr : r = []
      · exact .inr ⟨hr, rfl⟩
      · rw [List.getLast?_cons_of_ne_nil hr] at h; exact .inl h.2)
    simp only [List.nil_append] at this
    simp only [namesP, rowsP, List.drop_succ_cons, List.drop_zero, List.flatMap_map]
    rw [← this]

theorem hasZero_iff (s : ByteArray) : hasZero s = false ↔ ∀ b ∈ s.data.toList, b ≠ 0 := by
  unfold hasZero
  rw [Bool.eq_false_iff, ne_eq, List.contains_iff_mem]
  constructor
  · rintro h b hb rfl; exact h hb
  · intro h hm; exact h 0 hm rfl
theorem names_noZero (tab : List UInt8) : (namesP tab).any hasZero = false := by
  rw [List.any_eq_false]
  intro s hs
  obtain ⟨⟨p, n⟩, hm, rfl⟩ := List.mem_map.1 hs
  cases tab with
  | nil => simp [rowsP, pieces] at hm
  | cons b t => simpa using (hasZero_iff n).2 (rowsP_mem t b p n hm).1

theorem snoc_ind {α : Type} {Q : List α → Prop} (h0 : Q []) (h1 : ∀ xs x, Q xs → Q (xs ++ [x])) (xs : List α) : Q xs := by
  have : ∀ ys : List α, Q ys.reverse := by
    intro ys
    induction ys with
    | nil => exact h0
    | cons y r ih => rw [List.reverse_cons]; exact h1 _ _ ih
  simpa using this xs.reverse

/-- What the state of Build's loop means. -/
structure BMean (xs : List ByteArray) (s : BSt) : Prop where
  e0 : ends0 s.tab = true
  nd : (ByteArray.empty :: namesP s.tab).Nodup
  look : ∀ x, alook s.at_ x = if x = ByteArray.empty then some 0 else findRow (rowsP s.tab) x
  has : ∀ x ∈ xs, x = ByteArray.empty ∨ x ∈ namesP s.tab
  all : ∀ x ∈ namesP s.tab, x ∈ xs
  places : s.places = xs.map (fun x => (alook s.at_ x).getD 0)

theorem findRow_none (rs : List (Nat × ByteArray)) (x : ByteArray) : findRow rs x = none ↔ x ∉ rs.map (·.2) := by
  simp only [findRow, Option.map_eq_none_iff, List.find?_eq_none, decide_eq_true_eq, List.mem_map, not_exists, not_and]
theorem findRow_snoc (rs : List (Nat × ByteArray)) (p : Nat) (n x : ByteArray) (h : x ≠ n ∨ n ∉ rs.map (·.2)) : findRow (rs ++ [(p, n)]) x = if x = n then some (p : Int) else findRow rs x := by
  simp only [findRow, List.find?_append]
  by_cases e : x = n
  · subst e
    have h := h.resolve_left (by simp)
    have : rs.find? (fun r => decide (r.2 = x)) = none := by
      rw [List.find?_eq_none]; intro r hr; simp only [decide_eq_true_eq]; rintro rfl; exact h (List.mem_map_of_mem hr)
    simp [this]
  · have : ¬ n = x := fun h => e h.symm
    simp [e, this]

theorem bst_long_mono (xs : List ByteArray) (n : ByteArray) (h : (bst (xs ++ [n])).long = false) : (bst xs).long = false := by
  rw [bst_snoc] at h
  cases hl : (bst xs).long with
  | false => rfl
  | true => rw [bstep_long _ _ hl] at h; exact h

theorem binv (xs : List ByteArray) (hz : ∀ x ∈ xs, hasZero x = false) (hl : (bst xs).long = false) : BMean xs (bst xs) := by
  induction xs using snoc_ind with
  | h0 =>
    refine ⟨by decide, by simp [bst, bst0, namesP, rowsP, pieces], ?_, by simp, by simp [bst, bst0, namesP, rowsP, pieces], by simp [bst, bst0]⟩
    intro x
    simp only [bst, bst0, List.foldl_nil, alook, rowsP, pieces, findRow, List.drop_succ_cons, List.drop_zero, List.drop_nil, List.find?_nil, Option.map_none]
  | h1 xs n ih =>
    have hl0 := bst_long_mono xs n hl
    obtain ⟨e0, nd, look, has, all, places⟩ := ih (fun x hx => hz x (by simp [hx])) hl0
    rw [bst_snoc] at hl ⊢
    generalize bst xs = s at *
    unfold bstep at hl ⊢
    by_cases hs : (alook s.at_ n).isSome = true
    · simp only [hs, if_true] at hl ⊢
      refine ⟨e0, nd, look, ?_, fun x hx => by simp [all x hx], by simp [places]⟩
      intro x hx
      rcases List.mem_append.1 hx with hx | hx
      · exact has x hx
      · simp only [List.mem_singleton] at hx; subst hx
        by_cases he : x = ByteArray.empty
        · exact .inl he
        · right
          rw [look, if_neg he] at hs
          apply Classical.byContradiction
          intro hn
          rw [(findRow_none _ _).2 hn] at hs
          cases hs
    · have hnone : alook s.at_ n = none := by cases h : alook s.at_ n with | none => rfl | some v => simp [h] at hs
      simp only [hs, if_false, Bool.false_eq_true] at hl ⊢
      simp only [hl, Bool.false_eq_true, if_false]
      have hne : n ≠ ByteArray.empty := by rintro rfl; rw [look, if_pos rfl] at hnone; cases hnone
      have hnm : n ∉ namesP s.tab := by rw [look, if_neg hne] at hnone; exact (findRow_none _ _).1 hnone
      have hrs := rowsP_snoc s.tab n e0 ((hasZero_iff n).1 (hz n (by simp)))
      have hns : namesP (s.tab ++ n.data.toList ++ [0]) = namesP s.tab ++ [n] := by unfold namesP; rw [hrs, List.map_append]; rfl
      refine ⟨ends0_snoc _ _ e0, ?_, ?_, ?_, ?_, ?_⟩
      · show (ByteArray.empty :: namesP (s.tab ++ n.data.toList ++ [0])).Nodup
        rw [hns, ← List.cons_append, List.nodup_append]
        refine ⟨nd, by simp, ?_⟩
        intro a ha b hb
        simp only [List.mem_singleton] at hb; subst hb
        rintro rfl
        rcases List.mem_cons.1 ha with h | h
        · exact hne h
        · exact hnm h
      · intro x
        show alook (aset s.at_ n _) x = if x = _ then some 0 else findRow (rowsP (s.tab ++ n.data.toList ++ [0])) x
        rw [alook_aset, hrs, findRow_snoc _ _ _ _ (.inr hnm), look]
        by_cases e : x = n
        · subst e; simp [hne]
        · simp [e]
      · intro x hx
        show x = _ ∨ x ∈ namesP (s.tab ++ n.data.toList ++ [0])
        rw [hns]
        rcases List.mem_append.1 hx with hx | hx
        · rcases has x hx with h | h
          · exact .inl h
          · exact .inr (by simp [h])
        · exact .inr (by simp at hx; simp [hx])
      · intro x hx
        have hx : x ∈ namesP (s.tab ++ n.data.toList ++ [0]) := hx
        rw [hns] at hx
        rcases List.mem_append.1 hx with hx | hx
        · simp [all x hx]
        · simp at hx; simp [hx]
      · show s.places ++ [(s.tab.length : Int)] = (xs ++ [n]).map (fun x => (alook (aset s.at_ n s.tab.length) x).getD 0)
        rw [List.map_append, places]
        congr 1
        · apply List.map_congr_left
          intro x hx
          rw [alook_aset]
          by_cases e : x = n
          · subst e
            rcases has x hx with h | h
            · exact absurd h hne
            · exact absurd h hnm
          · rw [if_neg e]
        · simp [alook_aset]

/-- Build of names that are unlike, not empty and without a byte 0: nothing is left out. -/
theorem bst_flat (xs : List ByteArray) (hd : (ByteArray.empty :: xs).Nodup) (hz : ∀ x ∈ xs, hasZero x = false) (hl : (0 :: xs.flatMap (fun n => n.data.toList ++ [(0 : UInt8)])).length ≤ 1048576) :
    (bst xs).long = false ∧ (bst xs).tab = 0 :: xs.flatMap (fun n => n.data.toList ++ [0]) := by
  induction xs using snoc_ind with
  | h0 => exact ⟨rfl, rfl⟩
  | h1 xs n ih =>
    rw [← List.cons_append, List.nodup_append] at hd
    obtain ⟨hd1, _, hd2⟩ := hd
    have hz' : ∀ x ∈ xs, hasZero x = false := fun x hx => hz x (by simp [hx])
    have e : n.data.toList.length = n.size := by rw [Array.length_toList]; rfl
    have hl' : (0 :: xs.flatMap (fun n => n.data.toList ++ [(0 : UInt8)])).length + n.size + 1 ≤ 1048576 := by
      simp only [List.flatMap_append, List.flatMap_cons, List.flatMap_nil, List.append_nil, List.length_cons, List.length_append, List.length_nil, e] at hl ⊢
      omega
    obtain ⟨h1, h2⟩ := ih hd1 hz' (by omega)
    have hi := binv xs hz' h1
    have hnone : alook (bst xs).at_ n = none := by
      rw [hi.look, if_neg (fun h => hd2 ByteArray.empty (by simp) n (by simp) h.symm), findRow_none]
      intro hm
      exact hd2 n (List.mem_cons_of_mem _ (hi.all n hm)) n (by simp) rfl
    rw [← h2] at hl'
    rw [bst_snoc]
    unfold bstep
    have hdec : decide (1048576 - ((bst xs).tab.length : Int) ≤ n.size) = false := by simp; omega
    simp only [hnone, Option.isSome_none, Bool.false_eq_true, if_false, h1, hdec, Bool.or_false, true_and]
    rw [h2]; simp

theorem chk_eq (tab : List UInt8) : chkC tab = chkR tab := by
  unfold chkC chkR
  by_cases h1 : 1048576 < tab.length
  · simp only [h1, if_true]
  · simp only [h1, if_false]
    by_cases hr : (buildP (namesP tab)).2.2 = 0 ∧ (buildP (namesP tab)).1 = tab
    · rw [if_pos hr]
      obtain ⟨hz, hl, hb⟩ := buildP_ok _ hr.1
      have hi := binv (namesP tab) (fun x hx => by simpa using (List.any_eq_false.1 hz) x hx) hl
      rw [hb] at hr
      have h0 := hi.e0
      have h1 := hi.nd
      rw [show (bst (namesP tab)).tab = tab from hr.2] at h0 h1
      simp [h0, h1]
    · rw [if_neg hr]
      by_cases he : ends0 tab = false
      · simp [he]
      · have he' : ends0 tab = true := by simpa using he
        rw [if_neg he]
        refine if_neg fun hd => hr ?_
        have hz := names_noZero tab
        have hf := tab_flat tab he'
        obtain ⟨a, b⟩ := bst_flat (namesP tab) hd (fun x hx => by simpa using (List.any_eq_false.1 hz) x hx) (by rw [← hf]; omega)
        unfold buildP
        rw [hz, a]
        exact ⟨rfl, b.trans hf.symm⟩

theorem chk_ends (tab : List UInt8) (h : chkC tab = 0) : ends0 tab = true ∧ (ByteArray.empty :: namesP tab).Nodup ∧ tab.length ≤ 1048576 := by
  unfold chkC at h
  by_cases h1 : 1048576 < tab.length
  · simp [h1] at h
  · by_cases he : ends0 tab = false
    · simp [h1, he] at h
    · simp only [h1, he, if_false] at h
      refine ⟨by simpa using he, ?_, by omega⟩
      apply Classical.byContradiction
      intro hd
      simp [hd] at h

theorem bst_chk (xs : List ByteArray) (hz : ∀ x ∈ xs, hasZero x = false) (hl : (bst xs).long = false) : chkC (bst xs).tab = 0 := by
  have hi := binv xs hz hl
  have := bst_tab_le xs
  unfold chkC
  rw [if_neg (by omega), hi.e0, if_neg (by simp), if_pos hi.nd]

/-- Each name is at its place. -/
theorem bst_back (xs : List ByteArray) (hz : ∀ x ∈ xs, hasZero x = false) (hl : (bst xs).long = false) (i : Nat) (hi : i < xs.length) :
    ∃ p : Nat, (bst xs).places.getD i 0 = (p : Int) ∧ p < (bst xs).tab.length ∧ upTo ((bst xs).tab.drop p) = xs[i].data.toList ∧
      (xs[i] ≠ ByteArray.empty → findRow (rowsP (bst xs).tab) xs[i] = some (p : Int)) ∧ (xs[i] = ByteArray.empty → p = 0) := by
  obtain ⟨e0, nd, look, has, all, places⟩ := binv xs hz hl
  have hpl : (bst xs).places.getD i 0 = (alook (bst xs).at_ xs[i]).getD 0 := by rw [places]; simp [List.getD_eq_getElem?_getD, hi]
  have hm := has xs[i] (List.getElem_mem hi)
  generalize xs[i] = x at *
  rw [look] at hpl
  generalize (bst xs).tab = tab at *
  by_cases he : x = ByteArray.empty
  · subst he
    refine ⟨0, by simpa using hpl, ?_, ?_, fun h => absurd rfl h, fun _ => rfl⟩
    · cases tab with
      | nil => simp [ends0] at e0
      | cons => simp
    · cases tab with
      | nil => simp [ends0] at e0
      | cons b t =>
        have : b = 0 := by simp [ends0] at e0; exact e0.1
        subst this
        simp [upTo, List.takeWhile]
  · rw [if_neg he] at hpl
    have hm := hm.resolve_left he
    cases hf : findRow (rowsP tab) x with
    | none => exact absurd hm ((findRow_none _ _).1 hf)
    | some v =>
      have hf0 := hf
      unfold findRow at hf
      obtain ⟨⟨p, n⟩, hfd, rfl⟩ := Option.map_eq_some_iff.1 hf
      have hn : n = x := by simpa using List.find?_some hfd
      subst hn
      have hmem := List.mem_of_find?_eq_some hfd
      cases tab with
      | nil => simp [ends0] at e0
      | cons b t =>
        obtain ⟨_, h2, h3⟩ := rowsP_mem t b p n hmem
        exact ⟨p, by rw [hpl, hf0]; rfl, by omega, h3, fun _ => rfl, fun h => absurd h he⟩
end Go.Proofs.Ytaophcndkhnbeaa
