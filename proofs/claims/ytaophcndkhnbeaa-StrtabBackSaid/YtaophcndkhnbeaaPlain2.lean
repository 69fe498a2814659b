/-
  The two Builds reckon one thing: 'buildP_eq'.
-/
import Derived.Test.YtaophcndkhnbeaaPlain
namespace Go.Proofs.Ytaophcndkhnbeaa

theorem firstOf_get (xs : List ByteArray) (y : ByteArray) (k : Nat) (hk : k < xs.length) (h : firstOf xs y = k) : xs[k] = y := by
  unfold firstOf at h
  rw [List.findIdx_eq hk] at h
  simpa using h.1

structure Tie (xs : List ByteArray) (k : Nat) : Prop where
  long : (bst (xs.take k)).long = false
  tab : (bst (xs.take k)).tab = (rst xs k).1
  places : (bst (xs.take k)).places = (rst xs k).2
  look : ∀ y, alook (bst (xs.take k)).at_ y = if y = ByteArray.empty then some 0 else if firstOf xs y < k then some ((rst xs k).2.getD (firstOf xs y) 0) else none

theorem bstep_long (s : BSt) (n : ByteArray) (h : s.long = true) : (bstep s n).long = true := by
  unfold bstep; split <;> simp [h]

theorem getD_snoc_lt (l : List Int) (v : Int) (f : Nat) (h : f < l.length) : (l ++ [v]).getD f 0 = l.getD f 0 := by
  simp [List.getD, List.getElem?_append_left h]
theorem getD_snoc_eq (l : List Int) (v : Int) : (l ++ [v]).getD l.length 0 = v := by
  simp [List.getD]

theorem tie (xs : List ByteArray) : ∀ k, k ≤ xs.length → (rlong xs k = true → (bst (xs.take k)).long = true) ∧ (rlong xs k = false → Tie xs k)
  | 0, _ => by
    refine ⟨by simp [rlong], fun _ => ⟨rfl, rfl, rfl, fun y => ?_⟩⟩
    show alook [(ByteArray.empty, 0)] y = _
    simp [alook]
  | k + 1, hk => by
    obtain ⟨ih1, ih2⟩ := tie xs k (by omega)
    have hkl : k < xs.length := by omega
    have HT : bst (xs.take (k + 1)) = bstep (bst (xs.take k)) xs[k] := by rw [take_succ xs k hkl, bst_snoc]
    have HR : rst xs (k + 1) = rstep xs k xs[k] (rst xs k) := by
      have e : xs.getD k ByteArray.empty = xs[k] := by simp [hkl]
      rw [rst, e]
    have hpl := rst_places xs k
    cases hl : rlong xs k with
    | true =>
      refine ⟨fun _ => by rw [HT]; exact bstep_long _ _ (ih1 hl), fun h => ?_⟩
      rw [rlong_succ, hl] at h
      simp at h
    | false =>
      obtain ⟨t1, t2, t3, t4⟩ := ih2 hl
      have htl := rst_tab_le xs k hl
      obtain ⟨n, hn⟩ : ∃ n, n = xs[k] := ⟨_, rfl⟩
      have hfl := firstOf_le xs k hkl
      rw [← hn] at HT HR hfl
      have hk1 : ∀ y, firstOf xs y = k → y = n := fun y h => by rw [hn]; exact (firstOf_get xs y k hkl h).symm
      have found : ∀ v, alook (bst (xs.take k)).at_ n = some v → (n = ByteArray.empty ∨ firstOf xs n < k) → rst xs (k + 1) = ((rst xs k).1, (rst xs k).2 ++ [v]) → (rlong xs (k + 1) = true → (bst (xs.take (k + 1))).long = true) ∧ (rlong xs (k + 1) = false → Tie xs (k + 1)) := by
        intro v hv hc hr
        have hs : bst (xs.take (k + 1)) = { bst (xs.take k) with places := (bst (xs.take k)).places ++ [v] } := by rw [HT]; simp [bstep, hv]
        have hll : rlong xs (k + 1) = false := by rw [rlong_succ, hl, hr]; simp; omega
        refine ⟨(fun h => absurd (hll.symm.trans h) (by simp)), fun _ => ⟨by rw [hs]; exact t1, by rw [hs, hr]; exact t2, by rw [hs, hr, t3], fun y => ?_⟩⟩
        rw [hs, hr]
        show alook (bst (xs.take k)).at_ y = _
        rw [t4 y]
        by_cases hy : y = ByteArray.empty
        · simp [hy]
        · simp only [if_neg hy]
          by_cases hf : firstOf xs y < k
          · rw [if_pos hf, if_pos (by omega), getD_snoc_lt _ _ _ (by omega)]
          · rw [if_neg hf, if_neg]
            intro h2
            have hy2 := hk1 y (by omega)
            subst hy2
            rcases hc with h | h
            · exact hy h
            · exact hf h
      by_cases hne : n = ByteArray.empty
      · exact found 0 (by rw [t4 n, if_pos hne]) (.inl hne) (by rw [HR, rstep, if_pos hne])
      · by_cases hf : firstOf xs n < k
        · exact found ((rst xs k).2.getD (firstOf xs n) 0) (by rw [t4 n, if_neg hne, if_pos hf]) (.inr hf) (by rw [HR, rstep, if_neg hne, if_pos hf])
        · have hnone : alook (bst (xs.take k)).at_ n = none := by rw [t4 n, if_neg hne, if_neg hf]
          have hr : rst xs (k + 1) = ((rst xs k).1 ++ n.data.toList ++ [0], (rst xs k).2 ++ [((rst xs k).1.length : Int)]) := by rw [HR, rstep, if_neg hne, if_neg hf]
          have hlen : ((rst xs k).1 ++ n.data.toList ++ [0]).length = (rst xs k).1.length + n.size + 1 := by
            have e : n.data.toList.length = n.size := by rw [Array.length_toList]; rfl
            simp [e]; omega
          by_cases hbig : 1048576 - ((rst xs k).1.length : Int) ≤ n.size
          · have hs : (bst (xs.take (k + 1))).long = true := by rw [HT]; simp [bstep, hnone, t2, hbig]
            refine ⟨fun _ => hs, fun h => ?_⟩
            rw [rlong_succ, hl, hr] at h
            simp only [hlen, Bool.false_or, decide_eq_false_iff_not] at h
            omega
          · have hs : bst (xs.take (k + 1)) = ⟨(rst xs k).1 ++ n.data.toList ++ [0], aset (bst (xs.take k)).at_ n (rst xs k).1.length, (rst xs k).2 ++ [((rst xs k).1.length : Int)], false⟩ := by
              rw [HT]; simp [bstep, hnone, t1, t2, t3, hbig]
            have hll : rlong xs (k + 1) = false := by
              rw [rlong_succ, hl, hr]
              simp only [hlen, Bool.false_or, decide_eq_false_iff_not]
              omega
            refine ⟨(fun h => absurd (hll.symm.trans h) (by simp)), fun _ => ⟨by rw [hs], by rw [hs, hr], by rw [hs, hr], fun y => ?_⟩⟩
            rw [hs, hr]
            show alook (aset (bst (xs.take k)).at_ n ((rst xs k).1.length : Int)) y = _
            rw [alook_aset]
            by_cases hyn : y = n
            · subst hyn
              have hfk : firstOf xs y = k := by omega
              rw [if_pos rfl, if_neg hne, hfk, if_pos (by omega)]
              congr 1
              have := getD_snoc_eq (rst xs k).2 ((rst xs k).1.length : Int)
              rw [hpl] at this
              exact this.symm
            · rw [if_neg hyn, t4 y]
              by_cases hy : y = ByteArray.empty
              · simp [hy]
              · simp only [if_neg hy]
                by_cases hf2 : firstOf xs y < k
                · rw [if_pos hf2, if_pos (by omega), getD_snoc_lt _ _ _ (by omega)]
                · rw [if_neg hf2, if_neg]
                  intro h2
                  exact hyn (hk1 y (by omega))

theorem buildP_eq (xs : List ByteArray) : buildP xs = buildR xs := by
  unfold buildP buildR
  split
  · rfl
  · obtain ⟨h1, h2⟩ := tie xs xs.length (Nat.le_refl _)
    rw [List.take_length] at h1
    cases hl : rlong xs xs.length with
    | true => simp [h1 hl]
    | false =>
      obtain ⟨t1, t2, t3, _⟩ := h2 hl
      rw [List.take_length] at t1 t2 t3
      simp [t1, t2, t3]
end Go.Proofs.Ytaophcndkhnbeaa
