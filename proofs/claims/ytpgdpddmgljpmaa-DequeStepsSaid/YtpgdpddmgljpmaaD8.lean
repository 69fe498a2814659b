/-
  slices.Repeat of one operation.
-/
import Derived.Test.YtpgdpddmgljpmaaD7
import Derived.Test.YtpgdpddmgljpmaaCopySz
import Derived.Deep.AppendLies
import Derived.Deep.CutRange
namespace Go.Proofs.Ytpgdpddmgljpmaa
open Go.RowKit
variable {w w' : World}

theorem opCells_app (a b : List (Int × Int)) : opCells (a ++ b) = opCells a ++ opCells b := by simp [opCells]
/-- So many steals, and zeros behind them. -/
def rowR (n k : Nat) : List Value := opCells (List.replicate k (3, 0) ++ List.replicate (n - k) (0, 0))
theorem rowR_len (n k : Nat) (h : k ≤ n) : (rowR n k).length = 2 * n := by unfold rowR; rw [opCells_len]; simp; omega
theorem rowR_splice (n k m : Nat) (h : k + m ≤ n) : splice (rowR n k) (k * 2) (opCells (List.replicate m (3, 0))) = rowR n (k + m) := by
  unfold splice rowR
  have e1 : (opCells (List.replicate k ((3 : Int), (0 : Int)))).length = k * 2 := by rw [opCells_len]; simp; omega
  have e2 : (opCells (List.replicate m ((3 : Int), (0 : Int)))).length = m * 2 := by rw [opCells_len]; simp; omega
  have e3 : (opCells (List.replicate m ((0 : Int), (0 : Int)))).length = m * 2 := by rw [opCells_len]; simp; omega
  have hz : List.replicate (n - k) ((0 : Int), (0 : Int)) = List.replicate m (0, 0) ++ List.replicate (n - (k + m)) (0, 0) := by
    rw [List.replicate_append_replicate]; congr 1; omega
  have hr : List.replicate (k + m) ((3 : Int), (0 : Int)) = List.replicate k (3, 0) ++ List.replicate m (3, 0) := by rw [List.replicate_append_replicate]
  rw [hz, hr]
  simp only [opCells_app]
  rw [List.take_left' e1, e2, ← List.drop_drop, List.drop_left' e1, List.drop_left' e3, List.append_assoc]
theorem rowR_cells (n k j : Nat) (v : Value) (hj : (opCells (List.replicate k ((3 : Int), (0 : Int))))[j]? = some v) : (rowR n k)[j]? = some v := by
  unfold rowR
  rw [opCells_app, List.getElem?_append_left (List.getElem?_eq_some_iff.1 hj).1]
  exact hj
theorem rep_one (m : Nat) : ∀ u ∈ opCells (List.replicate m ((3 : Int), (0 : Int))), u.oneCell' = true := by
  intro u hu
  unfold opCells at hu
  obtain ⟨a, _, ha⟩ := List.mem_flatMap.1 hu
  simp only [List.mem_cons, List.not_mem_nil, or_false] at ha
  rcases ha with rfl | rfl <;> rfl
theorem E25 : Elem Try.prog 25 27 2 16 (.agg #[.int .i64 0, .int .i64 0]) := Elem.mk' Try.underlying25 (by kernel_rfl) rfl (by decide)
theorem made0 (n : Nat) : (madeCells (Value.agg #[.int .i64 0, .int .i64 0]).cells (n * 2)).toList = rowR n 0 := by
  have hc : (Value.agg #[.int .i64 0, .int .i64 0]).cells = #[.int .i64 0, .int .i64 0] := rfl
  have hall : ∀ v ∈ (madeCells #[.int .i64 0, .int .i64 0] (n * 2)).toList, v = i64 0 := by
    intro v hv
    simp only [madeCells, Array.toList_map, List.mem_map] at hv
    obtain ⟨j, _, rfl⟩ := hv
    have : j % 2 = 0 ∨ j % 2 = 1 := by omega
    rcases this with h | h <;> simp [h]
  have hall2 : ∀ v ∈ rowR n 0, v = i64 0 := by
    intro v hv
    unfold rowR opCells at hv
    obtain ⟨a, ha, hb⟩ := List.mem_flatMap.1 hv
    simp at ha
    obtain ⟨_, rfl⟩ := ha
    simpa using hb
  rw [hc, List.eq_replicate_of_mem hall, List.eq_replicate_of_mem hall2, rowR_len n 0 (by omega)]
  simp [madeCells]; omega

theorem src_row {g : Nat} {L cs : List Value} {t : TypeId} (hg : w.heap[g]? = some (.cells L.toArray t (0, 0))) (hp : ∀ (j : Nat) (v : Value), cs[j]? = some v → L[j]? = some v) : ∀ (j : Nat) (v : Value), cs[j]? = some v → w.cell? ((⟨g, 0, none⟩ : Addr).add j) = some v := by
  intro j v hj
  rw [addr_add, Nat.zero_add, cell_of_row w g j _ _ _ hg]
  simpa using hp j v hj
theorem rep_pre (m k : Nat) (h : m ≤ k) (j : Nat) (v : Value) (hj : (opCells (List.replicate m ((3 : Int), (0 : Int))))[j]? = some v) : (opCells (List.replicate k ((3 : Int), (0 : Int))))[j]? = some v := by
  have : List.replicate k ((3 : Int), (0 : Int)) = List.replicate m (3, 0) ++ List.replicate (k - m) (3, 0) := by rw [List.replicate_append_replicate]; congr 1; omega
  rw [this, opCells_app, List.getElem?_append_left (List.getElem?_eq_some_iff.1 hj).1]
  exact hj
theorem own_full {base : Nat} {e : TypeId} {size n g : Nat} {xs : List Value} (h : w.ownsRow base e size (.slice (some ⟨g, 0, none⟩) n n) n xs) : w.heap[g]? = some (.cells xs.toArray e (0, 0)) ∧ base ≤ g := by
  rcases h.2 with ⟨hv, _⟩ | ⟨g', cap, cur, hv, hge, hg, _, _, hsz, htk⟩
  · cases hv
  · cases hv
    refine ⟨?_, hge⟩
    rw [List.take_of_length_le (by simp [hsz])] at htk
    rw [hg, ← htk]

set_option maxRecDepth 100000 in
set_option maxHeartbeats 1000000 in
theorem repeat_any (n : Nat) (hn : n ≤ 100000) (xb : Nat) (hx : w.heap[xb]? = some (.cells #[.int .i64 3, .int .i64 0] 27 (0, 0))) :
    Calls Try.prog 36 #[.slice (some ⟨xb, 0, none⟩) 1 1, .int .i64 n] w fun e w' => ∃ g, e = .returned (.slice (some ⟨g, 0, none⟩) n n) ∧ w'.heap[g]? = some (.cells (rowR n n).toArray 27 (0, 0)) ∧ w.heap.size ≤ g ∧ Below w.heap.size w w' := by
  have hxl := (Array.getElem?_eq_some_iff.1 hx).1
  have hmul := hid (Try.bits_Mul 1 n (by omega) (by omega))
  have e1 : (1 * n / 18446744073709551616 : Nat) = 0 := by omega
  have e2 : (1 * n % 18446744073709551616 : Nat) = n := by omega
  rw [e1, e2] at hmul
  clear e1 e2
  have HM0 := hid (made0 n)
  go_enter Try.func36, Try.ntmps36
  go_wp2_with (first
    | (go_at_call 49; refine (hmul.out _).mono ?_; rintro e w2 ⟨rfl, hw2⟩; rw [hw2]; clear hw2)
    | ((with_reducible show wpList _ _ _ (⟨some 30, _, _, _, _, _⟩ :: _) _ _); go_loud (refine wpList_mkfull E25 rfl _ _ rfl w.heap.size .i64 .i64 _ _ n rfl rfl rfl rfl (by omega) (by unfold maxLen; omega) (Nat.le_refl _) ?_); intro w2 ho2 hg2; rw [HM0.out] at ho2; obtain ⟨hg0, _⟩ := own_full ho2; have hx2 := (hg2.block xb hxl (by simp)).trans hx; have HG0 := hid hg0; clear hg0 ho2)
    | ((with_reducible show wpList _ _ _ (⟨some 33, _, _, _, _, _⟩ :: _) _ _); go_loud (refine wpList_copy_sz rfl _ _ _ _ rfl 27 Try.underlying25 2 (by kernel_rfl) w.heap.size 0 n n ⟨xb, 0, none⟩ 1 1 rfl rfl (rowR n 0) 27 HG0.out (min 1 n) rfl (opCells (List.replicate (min 1 n) (3, 0))) (by rw [opCells_len]; simp; omega) (src_row (L := opCells (List.replicate 1 (3, 0))) hx2 (rep_pre _ 1 (by omega))) (by rw [opCells_len, rowR_len n 0 (by omega)]; simp; omega) (rep_one _) ?_); intro w3 hg3 hg4))
  have hb3 : Below w.heap.size w w3 := ((Below.refl _ _).grown hg2 (Nat.le_refl _) (by simp)).grown hg4 hg2.size (by intro k e; cases e; exact Nat.le_refl _)
  have HG3 : Hid (w3.heap[w.heap.size]? = some (.cells (rowR n (min 1 n)).toArray 27 (0, 0))) := by
    have h := hg3.out
    have e := rowR_splice n 0 (min 1 n) (by omega)
    rw [Nat.zero_mul] at e
    rw [e, Nat.zero_add] at h
    exact h
  clear hg3 hg4 HG0 hg2 hx2 hmul HM0
  go_loopw [8] (fun i wr => ∃ k : Nat, k ≤ n ∧ (k = 0 → n = 0) ∧ i = .int .i64 k ∧ Hid (wr.heap[w.heap.size]? = some (.cells (rowR n k).toArray 27 (0, 0))) ∧ Below w.heap.size w wr) (fun i _ => n - (intOf i).toNat)
  case atStart => exact ⟨min 1 n, by omega, by omega, rfl, HG3, hb3⟩
  case round =>
    obtain ⟨k, hk, hk0, rfl, HG, hbl⟩ := hrel
    have hsz := hbl.size
    by_cases hlt : k < n
    · obtain ⟨m, hm⟩ : ∃ m, Nat.min k (n - k) = m := ⟨_, rfl⟩
      have hmk : m ≤ k := by rw [← hm]; exact Nat.min_le_left _ _
      have hmn : k + m ≤ n := by
        have : m ≤ n - k := by rw [← hm]; exact Nat.min_le_right _ _
        omega
      have hnk : ¬ n = k := by omega
      have hm1 : 1 ≤ m := by
        have : m = k ∨ m = n - k := by rw [← hm]; rcases Nat.le_total k (n - k) with h | h; exact .inl (Nat.min_eq_left h); exact .inr (Nat.min_eq_right h)
        omega
      have HM := hid hm
      have hkI : (k : Int) ≤ n := by omega
      have HGD : Hid (wr.drew.heap[w.heap.size]? = some (.cells (rowR n k).toArray 27 (0, 0))) := HG.out
      have HSRC := hid (src_row HGD.out (fun j v hj => rowR_cells n k j v (rep_pre m k hmk j v hj)))
      have hwr : IntKind.i64.wrap ((k : Int) + (m : Int)) = (k : Int) + (m : Int) := by rw [wrap_i64, wrap_small (by omega) (by omega)]
      clear hm
      go_upto_region 9 with (fail)
      go_region_held3 (fun _ => True) (trivial) (first | (go_loud (refine step_copy_sz rfl (.tmp 41) (.tmp 44) 25 25 rfl 27 Try.underlying25 2 (by kernel_rfl) w.heap.size (k * 2) (n - k) _ ⟨w.heap.size, 0, none⟩ k _ rfl rfl (rowR n k) 27 HGD.out m HM.out (opCells (List.replicate m (3, 0))) (by rw [opCells_len]; simp; omega) HSRC.out (by rw [opCells_len, rowR_len n k (by omega)]; simp; omega) (rep_one _) ?_); intro w4 hg4 hb4))
      have HG4 : Hid (w4.heap[w.heap.size]? = some (.cells (rowR n (k + m)).toArray 27 (0, 0))) := by
        have h := hg4.out
        rw [rowR_splice n k m hmn] at h
        exact h
      clear hg4
      go_wp2
      go_roundw
      case rel => exact ⟨k + m, hmn, by omega, by go_num, HG4, hbl.drew.grown hb4 hsz (by intro q e; cases e; exact Nat.le_refl _)⟩
      case measure => simp [intOf]; omega
    · obtain rfl : k = n := by omega
      go_wp2
      go_ret
      exact ⟨_, rfl, HG.out, Nat.le_refl _, hbl⟩
end Go.Proofs.Ytpgdpddmgljpmaa
