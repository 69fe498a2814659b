/-
  The library's comparisons of slices, in the words of rows; 'few'.
-/
import Derived.Test.YtaophcndkhnbeaaK
import Derived.Lib.LazyBuf
namespace Go.Proofs.Ytaophcndkhnbeaa
open Go.RowKit

theorem row_bytesIn {w : World} {p : Option Addr} {l : List UInt8} (h : Row w p (u8s l)) : Lib.BytesIn w p l.length (l.map fun b => (b.toNat : Int)) := by
  intro hn
  obtain ⟨b, o, rfl, _, hc⟩ := h.at (by simpa using hn)
  refine ⟨b, o, rfl, fun i hi => ?_⟩
  rw [hc i (by simpa using hi)]
  simp [List.getD, hi]

theorem bytesOf_nums (l : List UInt8) : Lib.bytesOf (l.map fun b => (b.toNat : Int)) = l := by
  simp [Lib.bytesOf, List.map_map, Function.comp_def]

theorem bytesEq_any (p q : Option Addr) (c d : Nat) (l m : List UInt8) (w : World) (h1 : Row w p (u8s l)) (h2 : Row w q (u8s m)) :
    Calls Try.prog 12 #[.slice p l.length c, .slice q m.length d] w fun e w' => e = .returned (.bool (l == m)) ∧ w = w' := by
  refine (Try.bytes_Equal_all p q l.length c m.length d _ _ w (by simp) (by simp) (row_bytesIn h1) (row_bytesIn h2)).mono fun e w' ⟨he, hw⟩ => ⟨?_, hw.symm⟩
  rw [he, bytesOf_nums, bytesOf_nums]

theorem intsEq_any (p q : Option Addr) (c d : Nat) (l m : List Int) (w : World) (h1 : Row w p (i64s l)) (h2 : Row w q (i64s m)) (hl : l.length ≤ 9223372036854775807) (hm : m.length ≤ 9223372036854775807) :
    Calls Try.prog 13 #[.slice p l.length c, .slice q m.length d] w fun e w' => e = .returned (.bool (l == m)) ∧ ∃ n, w' = w.drewN n := by
  by_cases hlm : l.length = m.length
  · by_cases h0 : l.length = 0
    · have e1 : l = [] := List.eq_nil_of_length_eq_zero h0
      subst e1
      refine (Try.slices_Equal_int_empty p q c m.length d w hm).mono fun e w' ⟨he, hw⟩ => ⟨?_, 0, hw⟩
      have e2 : m = [] := List.eq_nil_of_length_eq_zero (by rw [← hlm]; rfl)
      subst e2
      rw [he]; rfl
    · obtain ⟨b1, o1, rfl, _, c1⟩ := h1.at (by simp; omega)
      obtain ⟨b2, o2, rfl, _, c2⟩ := h2.at (by simp; omega)
      refine (Try.slices_Equal_int b1 o1 l.length c b2 o2 m.length d l m w (Nat.le_refl _) (Nat.le_refl _) hl hm ?_ ?_).mono fun e w' ⟨he, hw⟩ => ⟨?_, hw⟩
      · intro j hj
        rw [c1 j (by simpa using hj)]
        simp [List.getD, hj]
      · intro j hj
        rw [c2 j (by simpa using hj)]
        simp [List.getD, hj]
      · rw [he, List.take_length, List.take_length]
  · refine (Try.slices_Equal_int_lens p q l.length c m.length d w hlm).mono fun e w' ⟨he, hw⟩ => ⟨?_, 0, hw⟩
    rw [he]
    have : (l == m) = false := by
      rw [beq_eq_false_iff_ne]
      intro e
      exact hlm (by rw [e])
    rw [this]

def fewN (xs : List ByteArray) : Int := (xs.map (fun s => min (s.size : Int) 2000)).sum
theorem fewN_snoc (xs : List ByteArray) (s : ByteArray) : fewN (xs ++ [s]) = fewN xs + min (s.size : Int) 2000 := by simp [fewN]
theorem fewN_bd (xs : List ByteArray) : 0 ≤ fewN xs ∧ fewN xs ≤ 2000 * xs.length := by
  induction xs with
  | nil => simp [fewN]
  | cons a l ih => simp [fewN] at *; omega
def few (xs : List ByteArray) : Bool := decide (xs.length ≤ 100 ∧ fewN xs ≤ 2000)

set_option maxHeartbeats 400000 in
theorem few_any (p : Option Addr) (c : Nat) (xs : List ByteArray) (w : World) (hc : xs.length ≤ c) (hm : xs.length ≤ 9223372036854775807) (hs : ∀ s ∈ xs, s.size ≤ 9223372036854775807)
   (hrow : Row w p (xs.map Value.string)) :
    Calls Try.prog 9 #[.slice p xs.length c] w fun e w' => e = .returned (.bool (few xs)) ∧ w = w' := by
  go_enter Try.func9, Try.ntmps9
  go_wp2
  all_goals
    go_loop [3, 12] (fun t i => ∃ k : Nat, k ≤ xs.length ∧ k ≤ 100 ∧ i = .int .i64 k ∧ t = .int .i64 (fewN (xs.take k))) (fun _ i => xs.length - (intOf i).toNat)
    case atStart => exact ⟨0, by omega, by omega, rfl, rfl⟩
    case round =>
      obtain ⟨k, hk, hk2, rfl, rfl⟩ := hrel
      have hbd := fewN_bd (xs.take k)
      have hbl : (xs.take k).length ≤ 100 := by simp; omega
      by_cases hlt : k < xs.length ∧ k < 100
      · obtain ⟨hl1, hl2⟩ := hlt
        obtain ⟨b, off, rfl, hcell⟩ := hrow (by intro e; have := congrArg List.length e; simp at this; rw [this] at hl1; simp at hl1)
        have hcx := hcell k (by simp; omega)
        simp only [List.getElem_map] at hcx
        have hsx := hs _ (List.getElem_mem hl1)
        have HT := hid (take_succ xs k hl1)
        clear hcell hs
        obtain ⟨s, hs⟩ : ∃ s, s = xs[k] := ⟨_, rfl⟩
        rw [← hs] at hcx hsx HT
        clear hs hrow
        go_wp2
        all_goals
          go_round
          case rel => exact ⟨k + 1, by omega, by omega, by go_num, by rw [HT.out, fewN_snoc]; try first | go_num | (congr 1; omega)⟩
          case measure => simp [intOf]; omega
      · have hk3 : k = min xs.length 100 := by omega
        have HK := hid hk3
        clear hrow hs hk3
        have HF : Hid (few xs = (decide (xs.length ≤ 100) && decide (fewN (xs.take k) ≤ 2000))) := by
          simp only [Hid, few]
          by_cases h : xs.length ≤ 100
          · have : xs.take k = xs := List.take_of_length_le (by omega)
            rw [this]; simp [h]
          · simp [h]
        go_wp2
        all_goals go_ret
        all_goals refine ⟨?_, rfl⟩
        all_goals rw [HF.out]
        all_goals refine ret_bool ?_
        all_goals (simp; try omega)

/-- The lengths together. -/
def szs (xs : List ByteArray) : Nat := (xs.map ByteArray.size).sum
theorem szs_snoc (xs : List ByteArray) (s : ByteArray) : szs (xs ++ [s]) = szs xs + s.size := by simp [szs]
theorem fewN_append (xs ys : List ByteArray) : fewN (xs ++ ys) = fewN xs + fewN ys := by simp [fewN]
theorem szs_of_fewN (xs : List ByteArray) (h : fewN xs ≤ 0) : szs xs = 0 := by
  induction xs with
  | nil => rfl
  | cons a l ih =>
    have hl := (fewN_bd l).1
    have e : fewN (a :: l) = min (a.size : Int) 2000 + fewN l := by simp [fewN]
    rw [e] at h
    have e2 : szs (a :: l) = a.size + szs l := by simp [szs]
    rw [e2, ih (by omega)]
    omega
theorem few_take (xs : List ByteArray) (k : Nat) (h : k < xs.length) (hf : few xs = true) : fewN (xs.take k) + min (xs[k].size : Int) 2000 ≤ 2000 := by
  have h2 : fewN xs ≤ 2000 := by have := of_decide_eq_true hf; omega
  have e : xs = xs.take k ++ [xs[k]] ++ xs.drop (k + 1) := by rw [← take_succ xs k h, List.take_append_drop]
  have h3 := (fewN_bd (xs.drop (k + 1))).1
  rw [e, fewN_append, fewN_snoc] at h2
  omega
theorem few_len (xs : List ByteArray) (hf : few xs = true) : xs.length ≤ 100 := by have := of_decide_eq_true hf; omega
theorem rst_len (xs : List ByteArray) : ∀ k, k ≤ xs.length → (rst xs k).1.length ≤ 1 + k + szs (xs.take k)
  | 0, _ => by simp [rst, szs]
  | k + 1, hk => by
    have ih := rst_len xs k (by omega)
    have e : xs.getD k ByteArray.empty = xs[k] := by simp [show k < xs.length by omega]
    rw [take_succ xs k (by omega), szs_snoc, rst, e, rstep]
    have e2 : xs[k].data.toList.length = xs[k].size := by rw [Array.length_toList]; rfl
    split
    · simp; omega
    · split
      · simp; omega
      · simp only [List.length_append, List.length_cons, List.length_nil, e2]; omega
theorem few_big (xs : List ByteArray) (hf : few xs = true) (hs : ∀ s ∈ xs, s.size ≤ 140737488351232) (k : Nat) (h : k < xs.length) (hl : rlong xs k = false) :
    (rst xs k).1.length + xs[k].size + 1 ≤ 140737488355328 := by
  have h1 := rst_tab_le xs k hl
  have h2 := few_take xs k h hf
  have h3 := few_len xs hf
  have h4 := hs _ (List.getElem_mem h)
  have h5 := (fewN_bd (xs.take k)).1
  by_cases hb : xs[k].size < 2000
  · omega
  · have h6 := rst_len xs k (by omega)
    rw [szs_of_fewN (xs.take k) (by omega)] at h6
    omega
end Go.Proofs.Ytaophcndkhnbeaa
