/-
  Where a name is: the walks of Find and Section, with slices.IndexFunc and its closures.
-/
import Derived.Test.YteccpmmedpkddaaRChk
namespace Go.Proofs.Yteccpmmedpkddaa
open Go.RowKit

def idxI (r : Option Nat) : Int := match r with | some k => k | none => -1
theorem place_any (n : Int) (w : World) : Calls Try.prog 43 #[.int .i64 n] w fun e w' => e = .returned (.tuple #[.int .i64 (max n 0), .bool (decide (0 ≤ n))]) ∧ w = w' := by
  by_cases h : 0 ≤ n
  all_goals
    go_enter Try.func43, Try.ntmps43
    go_wp2
    go_ret2
    refine ⟨?_, rfl⟩
    first
      | rfl
      | (rw [show max n 0 = n by omega, decide_eq_true h]; rfl)
      | (rw [show max n 0 = 0 by omega, decide_eq_false h]; rfl)
      | (have h' : n < 0 := by omega
         simp [h]; omega)
      | (simp [h]; omega)
      | (simp [h]; done)

theorem syclo_any (x : Sy) (b : Nat) (s : ByteArray) (w : World) (hb : b < w.heap.size) (hc : w.cell? ⟨b, 0, none⟩ = some (.string s)) :
    Calls Try.prog 45 #[.agg x.cells.toArray, .pointer (some ⟨b, 0, none⟩)] w fun e w' => e = .returned (.bool (named s x.name)) ∧ Below w.heap.size w w' := by
  unfold named
  obtain ⟨nm, sc, vl, gl⟩ := x
  show Calls Try.prog 45 #[.agg #[.string nm, .int .i64 sc, .int .i64 vl, .bool gl], .pointer (some ⟨b, 0, none⟩)] w _
  have hne : ¬ b = w.heap.size := by omega
  go_enter Try.func45, Try.ntmps45
  go_wp2
  go_ret
  exact ⟨ret_bool rfl, (Below.refl _ _).alloc (Nat.le_refl _) _⟩

set_option maxHeartbeats 1000000 in
theorem syidx_any (p : Option Addr) (c : Nat) (l : List Sy) (b : Nat) (s : ByteArray) (w : World) (hrow : Row w p (l.flatMap Sy.cells)) (hl : l.length ≤ 4398046510976) (hb0 : b < w.heap.size) (hc0 : w.cell? ⟨b, 0, none⟩ = some (.string s)) :
    Calls Try.prog 44 #[.slice p l.length c, .func (.func 45) #[] #[.pointer (some ⟨b, 0, none⟩)]] w fun e w' => e = .returned (.int .i64 (idxI (idxP (l.map Sy.name) s))) ∧ Below w.heap.size w w' := by
  go_enter Try.func44, Try.ntmps44
  go_wp2
  go_loopw [8] (fun i wr => ∃ k : Nat, k ≤ l.length ∧ i = .int .i64 k ∧ (∀ j (hj : j < l.length), j < k → named s (l[j]).name = false) ∧ Below w.heap.size w wr) (fun i _ => l.length - (intOf i).toNat)
  case atStart => exact ⟨0, Nat.zero_le _, rfl, fun j _ hj => by omega, Below.refl _ _⟩
  case round =>
    obtain ⟨k, hk, rfl, hok, hb⟩ := hrel
    have HOK := hid hok
    clear hok
    have hsz := hb.size
    by_cases hlt : k < l.length
    · obtain ⟨bb, off, rfl, hbs, hzz⟩ := hrow.at (by have := flat_len Sy.cells 4 (fun _ => rfl) l; omega)
      clear hzz
      obtain ⟨c0, c1, c2, c3⟩ := sy_cells (hrow.below hb) k hlt
      have HCL := hid (fun w1 (hw : Below w.heap.size w w1) => syclo_any l[k] b s w1 (Nat.lt_of_lt_of_le hb0 hw.size) ((hw.cell (p := ⟨b, 0, none⟩) hb0).trans hc0))
      have HK : Hid (named s (l[k]).name = true → idxP (l.map Sy.name) s = some k) := fun h => idxP_some (by simpa using hlt) (by rw [List.getElem_map]; exact h) (fun j hj hjk => by rw [List.getElem_map]; exact HOK.out j (by simpa using hj) hjk)
      have HN : Hid (named s (l[k]).name = false → ∀ j (hj : j < l.length), j < k + 1 → named s (l[j]).name = false) := fun h j hj hjk => by
        by_cases e : j = k
        · subst e; exact h
        · exact HOK.out j hj (by omega)
      generalize l[k] = x at c0 c1 c2 c3 HCL HK HN
      obtain ⟨nm, sc, vl, gl⟩ := x
      unfold Sy.cells at HCL
      dsimp only at c0 c1 c2 c3 HCL HK HN
      generalize named s nm = nb at HCL HK HN
      cases nb with
      | true =>
        have HF := hid (HK.out rfl)
        go_wp2_with (go_at_call 45; refine (HCL.out _ hb).mono ?_; rintro e w1 ⟨rfl, hb1⟩)
        go_ret
        exact ⟨ret_int (by rw [HF.out]; rfl), below_more hb1 hb (Nat.le_refl _)⟩
      | false =>
        go_wp2_with (go_at_call 45; refine (HCL.out _ hb).mono ?_; rintro e w1 ⟨rfl, hb1⟩)
        go_roundw
        case rel => exact ⟨k + 1, by omega, by go_num, HN.out (by first | rfl | trivial), below_more hb1 hb (Nat.le_refl _)⟩
        case measure => simp [intOf]; omega
    · have HF : Hid (idxP (l.map Sy.name) s = none) := idxP_none (fun j hj => by rw [List.getElem_map]; exact HOK.out j (by simpa using hj) (by simp at hj; omega))
      go_wp2
      go_ret
      exact ⟨ret_int (by rw [HF.out]; rfl), hb⟩

theorem scclo_any (x : Sc) (b : Nat) (s : ByteArray) (w : World) (hb : b < w.heap.size) (hc : w.cell? ⟨b, 0, none⟩ = some (.string s)) :
    Calls Try.prog 47 #[.agg x.cells.toArray, .pointer (some ⟨b, 0, none⟩)] w fun e w' => e = .returned (.bool (named s x.name)) ∧ Below w.heap.size w w' := by
  unfold named
  obtain ⟨nm, kd, al, sz, da, dp, dc, rl, rp, rc⟩ := x
  show Calls Try.prog 47 #[.agg #[.string nm, .int .i64 kd, .int .i64 al, .int .i64 sz, .slice dp da.length dc, .slice rp rl.length rc], .pointer (some ⟨b, 0, none⟩)] w _
  have hne : ¬ b = w.heap.size := by omega
  go_enter Try.func47, Try.ntmps47
  go_wp2
  go_ret
  exact ⟨ret_bool rfl, (Below.refl _ _).alloc (Nat.le_refl _) _⟩

set_option maxHeartbeats 1000000 in
theorem scidx_any (p : Option Addr) (c : Nat) (l : List Sc) (b : Nat) (s : ByteArray) (w : World) (hrow : Row w p (l.flatMap Sc.cells)) (hl : l.length ≤ 4398046510976) (hb0 : b < w.heap.size) (hc0 : w.cell? ⟨b, 0, none⟩ = some (.string s)) :
    Calls Try.prog 46 #[.slice p l.length c, .func (.func 47) #[] #[.pointer (some ⟨b, 0, none⟩)]] w fun e w' => e = .returned (.int .i64 (idxI (idxP (l.map Sc.name) s))) ∧ Below w.heap.size w w' := by
  go_enter Try.func46, Try.ntmps46
  go_wp2
  go_loopw [8] (fun i wr => ∃ k : Nat, k ≤ l.length ∧ i = .int .i64 k ∧ (∀ j (hj : j < l.length), j < k → named s (l[j]).name = false) ∧ Below w.heap.size w wr) (fun i _ => l.length - (intOf i).toNat)
  case atStart => exact ⟨0, Nat.zero_le _, rfl, fun j _ hj => by omega, Below.refl _ _⟩
  case round =>
    obtain ⟨k, hk, rfl, hok, hb⟩ := hrel
    have HOK := hid hok
    clear hok
    have hsz := hb.size
    by_cases hlt : k < l.length
    · obtain ⟨bb, off, rfl, hbs, hzz⟩ := hrow.at (by have := flat_len Sc.cells 6 (fun _ => rfl) l; omega)
      clear hzz
      obtain ⟨c0, c1, c2, c3, c4, c5⟩ := sc_cells (hrow.below hb) k hlt
      have HCL := hid (fun w1 (hw : Below w.heap.size w w1) => scclo_any l[k] b s w1 (Nat.lt_of_lt_of_le hb0 hw.size) ((hw.cell (p := ⟨b, 0, none⟩) hb0).trans hc0))
      have HK : Hid (named s (l[k]).name = true → idxP (l.map Sc.name) s = some k) := fun h => idxP_some (by simpa using hlt) (by rw [List.getElem_map]; exact h) (fun j hj hjk => by rw [List.getElem_map]; exact HOK.out j (by simpa using hj) hjk)
      have HN : Hid (named s (l[k]).name = false → ∀ j (hj : j < l.length), j < k + 1 → named s (l[j]).name = false) := fun h j hj hjk => by
        by_cases e : j = k
        · subst e; exact h
        · exact HOK.out j hj (by omega)
      generalize l[k] = x at c0 c1 c2 c3 c4 c5 HCL HK HN
      obtain ⟨nm, kd, al, sz, da, dp, dc, rl, rp, rc⟩ := x
      unfold Sc.cells at HCL
      dsimp only at c0 c1 c2 c3 c4 c5 HCL HK HN
      generalize named s nm = nb at HCL HK HN
      cases nb with
      | true =>
        have HF := hid (HK.out rfl)
        go_wp2_with (go_at_call 47; refine (HCL.out _ hb).mono ?_; rintro e w1 ⟨rfl, hb1⟩)
        go_ret
        exact ⟨ret_int (by rw [HF.out]; rfl), below_more hb1 hb (Nat.le_refl _)⟩
      | false =>
        go_wp2_with (go_at_call 47; refine (HCL.out _ hb).mono ?_; rintro e w1 ⟨rfl, hb1⟩)
        go_roundw
        case rel => exact ⟨k + 1, by omega, by go_num, HN.out (by first | rfl | trivial), below_more hb1 hb (Nat.le_refl _)⟩
        case measure => simp [intOf]; omega
    · have HF : Hid (idxP (l.map Sc.name) s = none) := idxP_none (fun j hj => by rw [List.getElem_map]; exact HOK.out j (by simpa using hj) (by simp at hj; omega))
      go_wp2
      go_ret
      exact ⟨ret_int (by rw [HF.out]; rfl), hb⟩

theorem find_any (o : Ob) (s : ByteArray) (w : World) (ho : o.ok w) :
    Calls Try.prog 16 #[.agg o.cells.toArray, .string s] w fun e w' => e = .returned (idxV (idxP (o.syms.map Sy.name) s)) ∧ Below w.heap.size w w' := by
  have hrow := ho.syms
  have hcap := ho.ycap
  obtain ⟨secs, sp, sc, syms, yp, yc⟩ := o
  dsimp only at hrow hcap ⊢
  clear ho
  obtain ⟨hc1, hc2, _⟩ := hcap
  show Calls Try.prog 16 #[.agg #[.slice sp secs.length sc, .slice yp syms.length yc], .string s] w _
  have hbx : Below w.heap.size w ((w.alloc (.cells #[.slice sp secs.length sc, .slice yp syms.length yc] 25)).alloc (.cells #[.string s] 9)) := ((Below.refl _ _).alloc (Nat.le_refl _) _).alloc (by simp) _
  have hcs : ((w.alloc (.cells #[.slice sp secs.length sc, .slice yp syms.length yc] 25)).alloc (.cells #[.string s] 9)).cell? ⟨w.heap.size + 1, 0, none⟩ = some (.string s) := by
    have h := heap_alloc_new (w.alloc (.cells #[.slice sp secs.length sc, .slice yp syms.length yc] 25)) (.cells #[.string s] 9 (0, 0))
    rw [World.size_alloc] at h
    exact cell_of_row _ _ 0 _ _ _ h
  have HI := hid (syidx_any yp yc syms (w.heap.size + 1) s _ (hrow.below hbx) (by omega) (by simp) hcs)
  clear hcs
  unfold idxV
  generalize idxP (syms.map Sy.name) s = r at HI ⊢
  have HPL := hid (fun w1 => place_any (idxI r) w1)
  have hr1 : max (idxI r) 0 = ((r.getD 0 : Nat) : Int) := by cases r <;> simp [idxI] <;> omega
  have hr2 : decide (0 ≤ idxI r) = r.isSome := by cases r <;> simp [idxI]
  rw [hr1, hr2] at HPL
  clear hr1 hr2
  generalize idxI r = q at HI HPL
  go_enter Try.func16, Try.ntmps16
  go_wp2_with (first
    | (go_at_call 44; refine HI.out.mono ?_; rintro e w1 ⟨rfl, hb1⟩)
    | (go_at_call 43; refine (HPL.out _).mono ?_; rintro e w2 ⟨rfl, rfl⟩))
  go_ret2
  exact ⟨rfl, below_more hb1 hbx (by simp)⟩

theorem sect_any (o : Ob) (s : ByteArray) (w : World) (ho : o.ok w) :
    Calls Try.prog 17 #[.agg o.cells.toArray, .string s] w fun e w' => e = .returned (idxV (idxP (o.secs.map Sc.name) s)) ∧ Below w.heap.size w w' := by
  have hrow := ho.secs
  have hcap := ho.scap
  obtain ⟨secs, sp, sc, syms, yp, yc⟩ := o
  dsimp only at hrow hcap ⊢
  clear ho
  obtain ⟨hc1, hc2, _⟩ := hcap
  show Calls Try.prog 17 #[.agg #[.slice sp secs.length sc, .slice yp syms.length yc], .string s] w _
  have hbx : Below w.heap.size w ((w.alloc (.cells #[.slice sp secs.length sc, .slice yp syms.length yc] 25)).alloc (.cells #[.string s] 9)) := ((Below.refl _ _).alloc (Nat.le_refl _) _).alloc (by simp) _
  have hcs : ((w.alloc (.cells #[.slice sp secs.length sc, .slice yp syms.length yc] 25)).alloc (.cells #[.string s] 9)).cell? ⟨w.heap.size + 1, 0, none⟩ = some (.string s) := by
    have h := heap_alloc_new (w.alloc (.cells #[.slice sp secs.length sc, .slice yp syms.length yc] 25)) (.cells #[.string s] 9 (0, 0))
    rw [World.size_alloc] at h
    exact cell_of_row _ _ 0 _ _ _ h
  have HI := hid (scidx_any sp sc secs (w.heap.size + 1) s _ (hrow.below hbx) (by omega) (by simp) hcs)
  clear hcs
  unfold idxV
  generalize idxP (secs.map Sc.name) s = r at HI ⊢
  have HPL := hid (fun w1 => place_any (idxI r) w1)
  have hr1 : max (idxI r) 0 = ((r.getD 0 : Nat) : Int) := by cases r <;> simp [idxI] <;> omega
  have hr2 : decide (0 ≤ idxI r) = r.isSome := by cases r <;> simp [idxI]
  rw [hr1, hr2] at HPL
  clear hr1 hr2
  generalize idxI r = q at HI HPL
  go_enter Try.func17, Try.ntmps17
  go_wp2_with (first
    | (go_at_call 46; refine HI.out.mono ?_; rintro e w1 ⟨rfl, hb1⟩)
    | (go_at_call 43; refine (HPL.out _).mono ?_; rintro e w2 ⟨rfl, rfl⟩))
  go_ret2
  exact ⟨rfl, below_more hb1 hbx (by simp)⟩
end Go.Proofs.Yteccpmmedpkddaa
