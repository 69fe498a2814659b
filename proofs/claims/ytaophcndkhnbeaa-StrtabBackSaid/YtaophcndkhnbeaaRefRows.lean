/-
  The document's rows.
-/
import Derived.Test.YtaophcndkhnbeaaRowsI
namespace Go.Proofs.Ytaophcndkhnbeaa
open Go.RowKit

theorem take_more (l : List UInt8) (f k : Nat) (h : f ≤ k) (hk : k < l.length) : (l.drop f).take (k + 1 - f) = (l.drop f).take (k - f) ++ [l[k]] := by
  rw [show k + 1 - f = (k - f) + 1 by omega, List.take_add_one]
  congr 1
  rw [List.getElem?_drop, show f + (k - f) = k by omega, List.getElem?_eq_getElem hk]
  rfl

set_option maxHeartbeats 1000000 in
theorem refrows_any (q : Option Addr) (c : Nat) (tab : List UInt8) (w : World) (hqc : tab.length ≤ c) (hm : tab.length ≤ 1048576) (hrow : Row w q (u8s tab)) :
    Calls Try.prog 31 #[.slice q tab.length c] w fun e w' => ∃ v, e = .returned v ∧ w'.ownsRow w.heap.size 43 2 v (rowsP tab).length (rowCells (rowsP tab)) ∧ Below w.heap.size w w' := by
  have HL := hid (rowsP_len tab)
  go_enter Try.func31, Try.ntmps31
  go_wp2
  go_loopw [3, 4, 5] (fun v fr i wr => ∃ (k f : Nat) (pre : List (Nat × ByteArray)), 1 ≤ f ∧ f ≤ k ∧ (k ≤ tab.length ∨ k = 1) ∧ i = .int .i64 k ∧ fr = .int .i64 f ∧ pre ++ pieces (tab.drop k) f ((tab.drop f).take (k - f)) = rowsP tab ∧ wr.ownsRow w.heap.size 43 2 v pre.length (rowCells pre) ∧ Below w.heap.size w wr) (fun _ _ i _ => tab.length - (intOf i).toNat)
  case atStart => exact ⟨1, 1, [], Nat.le_refl _, Nat.le_refl _, .inr rfl, rfl, rfl, rfl, World.ownsRow_nil _ _ _ _, Below.refl _ _⟩
  case round =>
    obtain ⟨k, f, pre, hf1, hfk, hkl, rfl, rfl, hP, hown, hb⟩ := hrel
    have HP := hid hP
    have hsz := hb.size
    clear hP
    by_cases hlt : k < tab.length
    · obtain ⟨b, o, rfl, hbw, hcell⟩ := (hrow.below hb).at (by simp [u8s]; omega)
      have hck := hcell k (by simpa [u8s] using hlt)
      simp only [u8s, List.getElem_map] at hck
      have HX := hid (List.drop_eq_getElem_cons hlt)
      have HTM := hid (take_more tab f k hfk hlt)
      have HC := hid (conv_row (row_sub (hrow.below hb) f (k - f) (by omega)) (c - f))
      clear hcell
      generalize tab[k] = x at *
      by_cases hx : x = 0
      · subst hx
        have HP2 : Hid ((pre ++ [(f, ⟨((tab.drop f).take (k - f)).toArray⟩)]) ++ pieces (tab.drop (k + 1)) (k + 1) ((tab.drop (k + 1)).take (k + 1 - (k + 1))) = rowsP tab) := by
          have := HP.out
          rw [HX.out, pieces_zero, List.length_take_of_le (by simp; omega), show f + (k - f) + 1 = k + 1 by omega] at this
          simpa [Hid] using this
        have hl2 : pre.length + 1 ≤ 1048576 := by
          have h1 := HL.out
          have h2 := congrArg List.length HP2.out
          simp only [List.length_append, List.length_cons, List.length_nil] at h2
          omega
        have hcv := HC.out
        rw [List.length_take_of_le (by simp; omega)] at hcv
        generalize (⟨((tab.drop f).take (k - f)).toArray⟩ : ByteArray) = s at *
        clear HP HX HTM HC
        go_wp2_with ((with_reducible show wpList _ _ _ (⟨some 26, _, _, _, _, _⟩ :: _) _ _); go_loud (refine wpList_app E41 rfl _ _ rfl w.heap.size _ _ _ rfl (hown.alloc _) _ 1 1 [.int .i64 f, .string s] rfl rfl (by simp) (row_new _ _ _) (by simp [Value.oneCell']) (by unfold maxLen; omega) (by omega) (by simp; omega) ?_); intro v2 w2 ho2 hg2 hs2)
        have hb2 := (hb.alloc hsz (.cells #[.int .i64 f, .string s] 43)).grown hg2 (by simp; omega) (own_ge hown)
        go_roundw
        case rel => exact ⟨k + 1, k + 1, pre ++ [(f, s)], by omega, by omega, .inl (by omega), by go_num, by go_num, HP2.out, by rw [rowCells_snoc, List.length_append]; exact ho2, hb2⟩
        case measure => simp [intOf]; omega
      · have HP2 : Hid (pre ++ pieces (tab.drop (k + 1)) f ((tab.drop f).take (k + 1 - f)) = rowsP tab) := by
          have := HP.out
          rw [HX.out, pieces_more x hx, ← HTM.out] at this
          exact this
        have hxn : ((x.toNat : Int) == 0) = false := by have := byte_ne hx; simpa using this
        clear HP HX HTM HC hx
        go_wp2
        go_roundw
        case rel => exact ⟨k + 1, f, pre, by omega, by omega, .inl (by omega), by go_num, rfl, HP2.out, hown, hb⟩
        case measure => simp [intOf]; omega
    · have HA : Hid (pre = rowsP tab) := by
        have := HP.out
        rw [List.drop_of_length_le (by omega)] at this
        show pre = rowsP tab
        simpa [pieces] using this
      go_wp2
      go_ret
      exact ⟨_, rfl, by rw [← HA.out]; exact hown, hb⟩
end Go.Proofs.Ytaophcndkhnbeaa
