/-
  slices.Equal at answers and at values; few; begun.
-/
import Derived.Test.YtpgdpddmgljpmaaD14
namespace Go.Proofs.Ytpgdpddmgljpmaa
open Go.RowKit
variable {w w' : World}

theorem ansCells_at (rs : List (Bool × Int)) (k : Nat) (hk : k < rs.length) : (ansCells rs)[2 * k]? = some (.bool rs[k].1) ∧ (ansCells rs)[2 * k + 1]? = some (i64 rs[k].2) := by
  induction rs generalizing k with
  | nil => simp at hk
  | cons r l ih =>
    have e : ansCells (r :: l) = .bool r.1 :: i64 r.2 :: ansCells l := by simp [ansCells]
    rw [e]
    cases k with
    | zero => simp
    | succ k =>
      have := ih k (by simpa using hk)
      rw [show 2 * (k + 1) = 2 * k + 1 + 1 by omega]
      simpa using this
theorem ans_cells {w : World} {b o : Nat} {rs : List (Bool × Int)} (h : Row w (some ⟨b, o, none⟩) (ansCells rs)) (k : Nat) (hk : k < rs.length) :
    w.cell? ⟨b, o + k * 2, none⟩ = some (.bool rs[k].1) ∧ w.cell? ⟨b, o + k * 2 + 1, none⟩ = some (i64 rs[k].2) := by
  rw [Nat.mul_comm k 2]
  have hl := ansCells_len rs
  obtain ⟨h1, h2⟩ := ansCells_at rs k hk
  have c1 := h.cell (2 * k) (by omega)
  have c2 := h.cell (2 * k + 1) (by omega)
  rw [List.getElem?_eq_getElem (by omega)] at h1 h2
  rw [Option.some.inj h1] at c1
  rw [Option.some.inj h2] at c2
  exact ⟨c1, c2⟩

set_option maxHeartbeats 1000000 in
theorem eqA_any (p q : Option Addr) (c d : Nat) (l m : List (Bool × Int)) (w : World) (h1 : Row w p (ansCells l)) (h2 : Row w q (ansCells m)) (hl : l.length ≤ maxLen) (hm : m.length ≤ maxLen) :
    Calls Try.prog 25 #[.slice p l.length c, .slice q m.length d] w fun e w' => e = .returned (.bool (decide (l = m))) ∧ Below w.heap.size w w' := by
  unfold maxLen at hl hm
  by_cases hlm : l.length = m.length
  · have HM := hid hlm
    rw [← hlm]
    clear hlm
    have hne : (((l.length : Nat) : Int) != (l.length : Int)) = false := by simp
    go_enter Try.func25, Try.ntmps25
    go_wp2
    go_loopw [13] (fun i wr => ∃ k : Nat, k ≤ l.length ∧ i = .int .i64 k ∧ l.take k = m.take k ∧ Below w.heap.size w wr) (fun i _ => l.length - (intOf i).toNat)
    case atStart => exact ⟨0, Nat.zero_le _, rfl, by simp, Below.refl _ _⟩
    case round =>
      obtain ⟨k, hk, rfl, htk, hb⟩ := hrel
      have HT := hid htk
      clear htk
      have hsz := hb.size
      by_cases hlt : k < l.length
      · have hlt2 : k < m.length := by rw [← HM.out]; exact hlt
        obtain ⟨b1, o1, rfl, hb1, hz1⟩ := h1.at (by rw [ansCells_len]; omega)
        obtain ⟨b2, o2, rfl, hb2, hz2⟩ := h2.at (by rw [ansCells_len]; omega)
        clear hz1 hz2
        obtain ⟨c1, c1'⟩ := ans_cells h1 k hlt
        obtain ⟨c2, c2'⟩ := ans_cells h2 k hlt2
        have g1 := (hb.cell (p := ⟨b1, o1 + k * 2, none⟩) hb1).trans c1
        have g1' := (hb.cell (p := ⟨b1, o1 + k * 2 + 1, none⟩) hb1).trans c1'
        have g2 := (hb.cell (p := ⟨b2, o2 + k * 2, none⟩) hb2).trans c2
        have g2' := (hb.cell (p := ⟨b2, o2 + k * 2 + 1, none⟩) hb2).trans c2'
        clear c1 c1' c2 c2'
        have HA : Hid (l.take (k + 1) = l.take k ++ [l[k]]) := take_succ l k hlt
        have HB : Hid (m.take (k + 1) = m.take k ++ [m[k]]) := take_succ m k hlt2
        have HN : Hid (l[k] ≠ m[k] → decide (l = m) = false) := fun h => by
          rw [decide_eq_false_iff_not]
          intro e
          subst e
          exact h rfl
        obtain ⟨⟨x1, x2⟩, hx⟩ : ∃ x, x = l[k] := ⟨_, rfl⟩
        obtain ⟨⟨y1, y2⟩, hy⟩ : ∃ y, y = m[k] := ⟨_, rfl⟩
        rw [← hx] at g1 g1' HA HN
        rw [← hy] at g2 g2' HB HN
        dsimp only at g1 g1' g2 g2'
        clear hx hy hlt2
        by_cases hxy : x1 = y1
        · subst hxy
          have hxx : (x1 == x1) = true := by simp
          by_cases hxy2 : x2 = y2
          · subst hxy2
            have hxx2 : (x2 == x2) = true := by simp
            go_wp2
            go_region
            go_wp2
            go_roundw
            case rel => exact ⟨k + 1, by omega, by go_num, by rw [HA.out, HB.out, HT.out], hb.drew⟩
            case measure => simp [intOf]; omega
          · have hxx2 : (x2 == y2) = false := by simpa using hxy2
            have HN := hid (HN.out (by intro e; cases e; exact hxy2 rfl))
            clear hxy2
            go_wp2
            go_region
            go_wp2
            go_ret
            exact ⟨ret_bool (by rw [HN.out]), hb.drew⟩
        · have hxx : (x1 == y1) = false := by simpa using hxy
          have HN := hid (HN.out (by intro e; cases e; exact hxy rfl))
          clear hxy
          go_wp2
          go_region
          go_wp2
          go_ret
          exact ⟨ret_bool (by rw [HN.out]), hb.drew⟩
      · have hkx : k = l.length := by omega
        have HE : Hid (decide (l = m) = true) := by
          have h := HT.out
          rw [hkx, List.take_length, HM.out, List.take_length] at h
          simpa [Hid] using h
        clear HT
        subst hkx
        go_wp2
        go_ret
        exact ⟨ret_bool (by rw [HE.out]), hb⟩
  · have HE : Hid (decide (l = m) = false) := by
      simp only [Hid, decide_eq_false_iff_not]
      intro e
      exact hlm (by rw [e])
    have hne : (((l.length : Nat) : Int) != (m.length : Int)) = true := by rw [bne_iff_ne]; omega
    clear hlm
    go_enter Try.func25, Try.ntmps25
    go_wp2
    go_ret
    exact ⟨ret_bool (by rw [HE.out]), Below.refl _ _⟩

set_option maxHeartbeats 1000000 in
theorem eqL_any (p q : Option Addr) (c d : Nat) (l m : List Int) (w : World) (h1 : Row w p (l.map i64)) (h2 : Row w q (m.map i64)) (hl : l.length ≤ maxLen) (hm : m.length ≤ maxLen) :
    Calls Try.prog 17 #[.slice p l.length c, .slice q m.length d] w fun e w' => e = .returned (.bool (decide (l = m))) ∧ Below w.heap.size w w' := by
  unfold maxLen at hl hm
  by_cases hlm : l.length = m.length
  · have HM := hid hlm
    rw [← hlm]
    clear hlm
    have hne : (((l.length : Nat) : Int) != (l.length : Int)) = false := by simp
    go_enter Try.func17, Try.ntmps17
    go_wp2
    go_loopw [13] (fun i wr => ∃ k : Nat, k ≤ l.length ∧ i = .int .i64 k ∧ l.take k = m.take k ∧ Below w.heap.size w wr) (fun i _ => l.length - (intOf i).toNat)
    case atStart => exact ⟨0, Nat.zero_le _, rfl, by simp, Below.refl _ _⟩
    case round =>
      obtain ⟨k, hk, rfl, htk, hb⟩ := hrel
      have HT := hid htk
      clear htk
      have hsz := hb.size
      by_cases hlt : k < l.length
      · have hlt2 : k < m.length := by rw [← HM.out]; exact hlt
        obtain ⟨b1, o1, rfl, hb1, hz1⟩ := h1.at (by simp; omega)
        obtain ⟨b2, o2, rfl, hb2, hz2⟩ := h2.at (by simp; omega)
        clear hz1 hz2
        have c1 := (hb.cell (p := ⟨b1, o1 + k, none⟩) hb1).trans (h1.cell k (by simpa using hlt))
        have c2 := (hb.cell (p := ⟨b2, o2 + k, none⟩) hb2).trans (h2.cell k (by simpa using hlt2))
        simp only [List.getElem_map] at c1 c2
        have HA : Hid (l.take (k + 1) = l.take k ++ [l[k]]) := take_succ l k hlt
        have HB : Hid (m.take (k + 1) = m.take k ++ [m[k]]) := take_succ m k hlt2
        have HN : Hid (l[k] ≠ m[k] → decide (l = m) = false) := fun h => by
          rw [decide_eq_false_iff_not]
          intro e
          subst e
          exact h rfl
        obtain ⟨x, hx⟩ : ∃ x, x = l[k] := ⟨_, rfl⟩
        obtain ⟨y, hy⟩ : ∃ y, y = m[k] := ⟨_, rfl⟩
        rw [← hx] at c1 HA HN
        rw [← hy] at c2 HB HN
        clear hx hy hlt2
        by_cases hxy : x = y
        · subst hxy
          have hxx : (x != x) = false := by simp
          go_wp2
          go_region
          go_wp2
          go_roundw
          case rel => exact ⟨k + 1, by omega, by go_num, by rw [HA.out, HB.out, HT.out], hb.drew⟩
          case measure => simp [intOf]; omega
        · have hxx : (x != y) = true := by simpa using hxy
          have HN := hid (HN.out hxy)
          clear hxy
          go_wp2
          go_region
          go_wp2
          go_ret
          exact ⟨ret_bool (by rw [HN.out]), hb.drew⟩
      · have hkx : k = l.length := by omega
        have HE : Hid (decide (l = m) = true) := by
          have h := HT.out
          rw [hkx, List.take_length, HM.out, List.take_length] at h
          simpa [Hid] using h
        clear HT
        subst hkx
        go_wp2
        go_ret
        exact ⟨ret_bool (by rw [HE.out]), hb⟩
  · have HE : Hid (decide (l = m) = false) := by
      simp only [Hid, decide_eq_false_iff_not]
      intro e
      exact hlm (by rw [e])
    have hne : (((l.length : Nat) : Int) != (m.length : Int)) = true := by rw [bne_iff_ne]; omega
    clear hlm
    go_enter Try.func17, Try.ntmps17
    go_wp2
    go_ret
    exact ⟨ret_bool (by rw [HE.out]), Below.refl _ _⟩

/-- The sum that few makes. -/
def fewS (n : Int) (k : Int) : Int := min (n + max (min k 8192) 0) 8192
def fewN (n : Int) (th : List Int) : Int := (th.take 70).foldl fewS n
def fewB (n : Int) (th : List Int) (m : Nat) : Bool := (decide (fewN n th ≤ 120) || decide (4096 < fewN n th)) && decide (m ≤ 3000)
theorem fewS_bd (n k : Int) (h0 : 0 ≤ n) : 0 ≤ fewS n k ∧ fewS n k ≤ 8192 := by unfold fewS; omega
theorem foldl_bd (l : List Int) : ∀ n : Int, 0 ≤ n → 0 ≤ l.foldl fewS n ∧ (l.foldl fewS n ≤ n ∨ l.foldl fewS n ≤ 8192) := by
  induction l with
  | nil => intro n h; exact ⟨h, .inl (Int.le_refl _)⟩
  | cons a b ih =>
    intro n h
    have h1 := fewS_bd n a h
    have h2 := ih (fewS n a) h1.1
    rw [List.foldl_cons]
    omega
theorem foldl_take (l : List Int) (n : Int) (k : Nat) (hk : k < l.length) : (l.take (k + 1)).foldl fewS n = fewS ((l.take k).foldl fewS n) l[k] := by
  rw [take_succ l k hk, List.foldl_append]; rfl

set_option maxHeartbeats 1000000 in
theorem few_any {p1 p2 p3 : Option Addr} {c1 c2 c3 m : Nat} {n : Nat} {th : List Int} (hr : Row w p2 (ints th)) (hw : ∀ n ∈ th, -9223372036854775808 ≤ n ∧ n ≤ 9223372036854775807) (hn : n ≤ 140737488355328) (hm : m ≤ maxLen) (hl : th.length ≤ c2) (hc2 : c2 ≤ maxLen) (hp : p2 = none → c2 = 0) :
    Calls Try.prog 9 #[.slice p1 n c1, .slice p2 th.length c2, .slice p3 m c3] w fun e w' => e = .returned (.bool (fewB n th m)) ∧ w' = w := by
  unfold maxLen at hm hc2
  have HW := hid hw
  by_cases h70 : th.length ≤ 70
  · have g1 : (th.length : Int) ≤ 70 := by omega
    have g2 : max (th.length : Int) 0 = th.length := by omega
    have HTT : Hid (th.take 70 = th.take th.length) := by
      show th.take 70 = th.take th.length
      rw [List.take_length, List.take_of_length_le h70]
    clear hw
    go_enter Try.func9, Try.ntmps9
    go_wp2
    go_loopw [7, 18] (fun v i wr => ∃ k : Nat, k ≤ th.length ∧ i = .int .i64 k ∧ v = .int .i64 ((th.take k).foldl fewS n) ∧ wr = w) (fun _ i _ => th.length - (intOf i).toNat)
    case atStart => exact ⟨0, Nat.zero_le _, rfl, rfl, rfl⟩
    case round =>
      obtain ⟨k, hk, rfl, rfl, rfl⟩ := hrel
      have hbd := foldl_bd (th.take k) n (Int.natCast_nonneg n)
      by_cases hlt : k < th.length
      · have hlt' : k < th.length := by omega
        obtain ⟨b, o, rfl, _, hcell⟩ := hr.at (by simp; omega)
        have hck := hcell k (by simpa using hlt')
        simp only [List.getElem_map] at hck
        have HS := hid (foldl_take th n k hlt')
        have hx := HW.out _ (List.getElem_mem hlt')
        have hkI : (k : Int) < th.length := by omega
        have hkI2 : (k : Int) < th.length := by omega
        clear hcell
        generalize th[k] = x at *
        generalize (th.take k).foldl fewS n = s at *
        have hs0 : 0 ≤ s := hbd.1
        have hs1 : s ≤ 140737488355328 := by omega
        clear hbd
        go_wp2
        all_goals
          go_roundw
          case rel => exact ⟨k + 1, by omega, by go_num, by rw [HS.out]; show Value.int .i64 _ = Value.int .i64 _; congr 1; unfold fewS; omega, trivial⟩
          case measure => simp [intOf]; omega
      · obtain rfl : k = th.length := by omega
        have HF : Hid (fewB n th m = ((decide ((th.take th.length).foldl fewS n ≤ 120) || decide (4096 < (th.take th.length).foldl fewS n)) && decide (m ≤ 3000))) := by
          show fewB n th m = _
          unfold fewB fewN; first | rw [HTT.out] | rfl
        generalize (th.take th.length).foldl fewS n = s at *
        have hs0 : 0 ≤ s := hbd.1
        have hs1 : s ≤ 140737488355328 := by omega
        clear hbd
        by_cases q1 : s ≤ 120
        · have q1' : decide (s ≤ 120) = true := by simpa using q1
          go_wp2
          go_ret
          exact ⟨ret_bool (by rw [HF.out]; simp [q1]; try omega), rfl⟩
        · have q1' : decide (s ≤ 120) = false := by simpa using q1
          by_cases q2 : 4096 < s
          · have q2' : decide (4096 < s) = true := by simpa using q2
            go_wp2
            go_ret
            exact ⟨ret_bool (by rw [HF.out]; simp [q1, q2]; try omega), rfl⟩
          · have q2' : decide (4096 < s) = false := by simpa using q2
            go_wp2
            go_ret
            exact ⟨ret_bool (by rw [HF.out]; simp [q1, q2]; try omega), rfl⟩
  · have g1 : ¬ (th.length : Int) ≤ 70 := by omega
    have g2 : max (70 : Int) 0 = 70 := by omega
    have HTT : Hid (th.take 70 = th.take 70) := rfl
    clear hw
    go_enter Try.func9, Try.ntmps9
    go_wp2
    go_loopw [7, 18] (fun v i wr => ∃ k : Nat, k ≤ 70 ∧ i = .int .i64 k ∧ v = .int .i64 ((th.take k).foldl fewS n) ∧ wr = w) (fun _ i _ => 70 - (intOf i).toNat)
    case atStart => exact ⟨0, Nat.zero_le _, rfl, rfl, rfl⟩
    case round =>
      obtain ⟨k, hk, rfl, rfl, rfl⟩ := hrel
      have hbd := foldl_bd (th.take k) n (Int.natCast_nonneg n)
      by_cases hlt : k < 70
      · have hlt' : k < th.length := by omega
        obtain ⟨b, o, rfl, _, hcell⟩ := hr.at (by simp; omega)
        have hck := hcell k (by simpa using hlt')
        simp only [List.getElem_map] at hck
        have HS := hid (foldl_take th n k hlt')
        have hx := HW.out _ (List.getElem_mem hlt')
        have hkI : (k : Int) < 70 := by omega
        have hkI2 : (k : Int) < th.length := by omega
        clear hcell
        generalize th[k] = x at *
        generalize (th.take k).foldl fewS n = s at *
        have hs0 : 0 ≤ s := hbd.1
        have hs1 : s ≤ 140737488355328 := by omega
        clear hbd
        go_wp2
        all_goals
          go_roundw
          case rel => exact ⟨k + 1, by omega, by go_num, by rw [HS.out]; show Value.int .i64 _ = Value.int .i64 _; congr 1; unfold fewS; omega, trivial⟩
          case measure => simp [intOf]; omega
      · obtain rfl : k = 70 := by omega
        have HF : Hid (fewB n th m = ((decide ((th.take 70).foldl fewS n ≤ 120) || decide (4096 < (th.take 70).foldl fewS n)) && decide (m ≤ 3000))) := by
          show fewB n th m = _
          unfold fewB fewN; first | rw [HTT.out] | rfl
        generalize (th.take 70).foldl fewS n = s at *
        have hs0 : 0 ≤ s := hbd.1
        have hs1 : s ≤ 140737488355328 := by omega
        clear hbd
        by_cases q1 : s ≤ 120
        · have q1' : decide (s ≤ 120) = true := by simpa using q1
          go_wp2
          go_ret
          exact ⟨ret_bool (by rw [HF.out]; simp [q1]; try omega), rfl⟩
        · have q1' : decide (s ≤ 120) = false := by simpa using q1
          by_cases q2 : 4096 < s
          · have q2' : decide (4096 < s) = true := by simpa using q2
            go_wp2
            go_ret
            exact ⟨ret_bool (by rw [HF.out]; simp [q1, q2]; try omega), rfl⟩
          · have q2' : decide (4096 < s) = false := by simpa using q2
            go_wp2
            go_ret
            exact ⟨ret_bool (by rw [HF.out]; simp [q1, q2]; try omega), rfl⟩
end Go.Proofs.Ytpgdpddmgljpmaa
