/-
  The names of the symbols that are defined elsewhere: both walks.
-/
import Derived.Test.YteccpmmedpkddaaAt
namespace Go.Proofs.Yteccpmmedpkddaa
open Go.RowKit

def strs (l : List ByteArray) : List Value := l.map Value.string
def undP (l : List Sy) : List ByteArray := (l.filter (fun x => decide (x.sec = -1))).map Sy.name
theorem und_succ (l : List Sy) (k : Nat) (h : k < l.length) : undP (l.take (k + 1)) = if l[k].sec = -1 then undP (l.take k) ++ [l[k].name] else undP (l.take k) := by
  unfold undP
  rw [take_succ l k h, List.filter_append, List.map_append]
  by_cases e : l[k].sec = -1 <;> simp [e]
theorem und_len (l : List Sy) : (undP l).length ≤ l.length := by
  unfold undP
  rw [List.length_map]
  exact List.length_filter_le _ _
theorem E43 : Elem Try.prog 43 9 1 16 (.string .empty) := Elem.mk' Try.underlying43 (by kernel_rfl) rfl (by decide)
def UndPost (l : List ByteArray) (w : World) (e : Ending) (w' : World) : Prop := ∃ v, e = .returned v ∧ w'.ownsRow (w.heap.size + 1) 9 1 v l.length (strs l) ∧ Below w.heap.size w w'

set_option maxRecDepth 20000 in
set_option maxHeartbeats 4000000 in
theorem rund_any (o : Ob) (w : World) (ho : o.ok w) :
    Calls Try.prog 22 #[.agg o.cells.toArray] w (UndPost (undP o.syms) w) := by
  have hrow := ho.syms
  have hcap := ho.ycap
  obtain ⟨secs, sp, sc, syms, yp, yc⟩ := o
  dsimp only at hrow hcap ⊢
  clear ho
  obtain ⟨hc1, hc2, _⟩ := hcap
  show Calls Try.prog 22 #[.agg #[.slice sp secs.length sc, .slice yp syms.length yc]] w _
  go_enter Try.func22, Try.ntmps22
  go_wp2
  go_loopw [3, 4] (fun v i wr => ∃ k : Nat, k ≤ syms.length ∧ i = .int .i64 k ∧ wr.ownsRow (w.heap.size + 1) 9 1 v (undP (syms.take k)).length (strs (undP (syms.take k))) ∧ Below w.heap.size w wr ∧ wr.heap[w.heap.size]? = some (.cells #[.slice sp secs.length sc, .slice yp syms.length yc] 25 (0, 0))) (fun _ i _ => syms.length - (intOf i).toNat)
  case atStart => exact ⟨0, Nat.zero_le _, rfl, World.ownsRow_nil _ _ _ _, (Below.refl _ _).alloc (Nat.le_refl _) _, heap_alloc_new w _⟩
  case round =>
    obtain ⟨k, hk, rfl, hown, hb, hblk⟩ := hrel
    have hsz := hb.size
    have d1 := cell_of_row wr w.heap.size 1 _ _ _ hblk
    have dl := (Array.getElem?_eq_some_iff.1 hblk).1
    simp only [List.getElem?_toArray, List.getElem?_cons_zero, List.getElem?_cons_succ] at d1
    have HBK := hid hblk
    have HOW := hid hown
    clear hblk
    by_cases hlt : k < syms.length
    · have HS := hid (und_succ syms k hlt)
      have hul := und_len (syms.take k)
      have hul2 : (syms.take k).length ≤ k := List.length_take_le _ _
      obtain ⟨b, of, rfl, hbs, hzz⟩ := hrow.at (by have := flat_len Sy.cells 4 (fun _ => rfl) syms; omega)
      clear hzz
      obtain ⟨c0, c1, c2, c3⟩ := sy_cells (hrow.below hb) k hlt
      obtain ⟨U, hU⟩ : ∃ U, U = undP (syms.take k) := ⟨_, rfl⟩
      rw [← hU] at hul hown HS
      clear hU
      generalize syms[k] = x at c0 c1 c2 c3 HS
      obtain ⟨nm, xs, xv, xg⟩ := x
      dsimp only at c0 c1 c2 c3 HS
      by_cases h1 : xs = -1
      · have HS2 : Hid (undP (syms.take (k + 1)) = U ++ [nm]) := by rw [Hid, HS.out, if_pos h1]
        subst h1
        go_wp2_with ((with_reducible show wpList _ _ _ (⟨some 27, _, _, _, _, _⟩ :: _) _ _); go_loud (refine wpList_app E43 rfl _ _ rfl (w.heap.size + 1) _ _ _ rfl (hown.alloc _) _ 1 1 [.string nm] rfl rfl (by simp) (row_new _ _ _) (by simp [Value.oneCell']) (by unfold maxLen; omega) (by omega) (by simp; omega) ?_); intro v2 w2 ho2 hg2 hs2)
        have hb2 : Below w.heap.size w w2 := (hb.alloc hsz _).grown hg2 (by simp; omega) (fun g hg => by have := own_ge hown g hg; omega)
        have hk2 := (hg2.block w.heap.size (by simp; omega) (fun e => by have := own_ge hown _ e.symm; omega)).trans ((Below.heap_alloc _ _ _ (by omega)).trans HBK.out)
        go_roundw
        case rel => exact ⟨k + 1, by omega, by go_num, by rw [HS2.out]; simpa [strs] using ho2, hb2, hk2⟩
        case measure => simp [intOf]; omega
      · have HS2 : Hid (undP (syms.take (k + 1)) = U) := by rw [Hid, HS.out, if_neg h1]
        have h1' : (xs == -1) = false := by simpa using h1
        clear h1
        go_wp2
        go_roundw
        case rel => exact ⟨k + 1, by omega, by go_num, by rw [HS2.out]; exact hown, hb, HBK.out⟩
        case measure => simp [intOf]; omega
    · obtain rfl : k = syms.length := by omega
      go_wp2
      go_ret
      exact ⟨_, rfl, by have := HOW.out; rwa [List.take_of_length_le (Nat.le_refl _)] at this, hb⟩
set_option maxRecDepth 20000 in
set_option maxHeartbeats 4000000 in
theorem und_any (o : Ob) (w : World) (ho : o.ok w) :
    Calls Try.prog 49 #[.agg o.cells.toArray] w (UndPost (undP o.syms) w) := by
  have hrow := ho.syms
  have hcap := ho.ycap
  obtain ⟨secs, sp, sc, syms, yp, yc⟩ := o
  dsimp only at hrow hcap ⊢
  clear ho
  obtain ⟨hc1, hc2, _⟩ := hcap
  show Calls Try.prog 49 #[.agg #[.slice sp secs.length sc, .slice yp syms.length yc]] w _
  go_enter Try.func49, Try.ntmps49
  go_wp2
  go_loopw [3, 9] (fun v i wr => ∃ k : Nat, k ≤ syms.length ∧ i = .int .i64 k ∧ wr.ownsRow (w.heap.size + 1) 9 1 v (undP (syms.take k)).length (strs (undP (syms.take k))) ∧ Below w.heap.size w wr ∧ wr.heap[w.heap.size]? = some (.cells #[.slice sp secs.length sc, .slice yp syms.length yc] 25 (0, 0))) (fun _ i _ => syms.length - (intOf i).toNat)
  case atStart => exact ⟨0, Nat.zero_le _, rfl, World.ownsRow_nil _ _ _ _, (Below.refl _ _).alloc (Nat.le_refl _) _, heap_alloc_new w _⟩
  case round =>
    obtain ⟨k, hk, rfl, hown, hb, hblk⟩ := hrel
    have hsz := hb.size
    have d1 := cell_of_row wr w.heap.size 1 _ _ _ hblk
    have dl := (Array.getElem?_eq_some_iff.1 hblk).1
    simp only [List.getElem?_toArray, List.getElem?_cons_zero, List.getElem?_cons_succ] at d1
    have HBK := hid hblk
    have HOW := hid hown
    clear hblk
    by_cases hlt : k < syms.length
    · have HS := hid (und_succ syms k hlt)
      have hul := und_len (syms.take k)
      have hul2 : (syms.take k).length ≤ k := List.length_take_le _ _
      obtain ⟨b, of, rfl, hbs, hzz⟩ := hrow.at (by have := flat_len Sy.cells 4 (fun _ => rfl) syms; omega)
      clear hzz
      obtain ⟨c0, c1, c2, c3⟩ := sy_cells (hrow.below hb) k hlt
      obtain ⟨U, hU⟩ : ∃ U, U = undP (syms.take k) := ⟨_, rfl⟩
      rw [← hU] at hul hown HS
      clear hU
      generalize syms[k] = x at c0 c1 c2 c3 HS
      obtain ⟨nm, xs, xv, xg⟩ := x
      dsimp only at c0 c1 c2 c3 HS
      by_cases h1 : xs = -1
      · have HS2 : Hid (undP (syms.take (k + 1)) = U ++ [nm]) := by rw [Hid, HS.out, if_pos h1]
        subst h1
        go_wp2_with ((with_reducible show wpList _ _ _ (⟨some 20, _, _, _, _, _⟩ :: _) _ _); go_loud (refine wpList_app E43 rfl _ _ rfl (w.heap.size + 1) _ _ _ rfl ((hown.alloc _).alloc _) _ 1 1 [.string nm] rfl rfl (by simp) (row_newAt _ _ _ _ (by simp)) (by simp [Value.oneCell']) (by unfold maxLen; omega) (by omega) (by simp; omega) ?_); intro v2 w2 ho2 hg2 hs2)
        have hb2 : Below w.heap.size w w2 := ((hb.alloc hsz _).alloc (by simp; omega) _).grown hg2 (by simp; omega) (fun g hg => by have := own_ge hown g hg; omega)
        have hk2 := (hg2.block w.heap.size (by simp; omega) (fun e => by have := own_ge hown _ e.symm; omega)).trans ((Below.heap_alloc _ _ _ (by simp; omega)).trans ((Below.heap_alloc _ _ _ (by omega)).trans HBK.out))
        go_roundw
        case rel => exact ⟨k + 1, by omega, by go_num, by rw [HS2.out]; simpa [strs] using ho2, hb2, hk2⟩
        case measure => simp [intOf]; omega
      · have HS2 : Hid (undP (syms.take (k + 1)) = U) := by rw [Hid, HS.out, if_neg h1]
        have h1' : (xs == -1) = false := by simpa using h1
        clear h1
        go_wp2
        go_roundw
        case rel => exact ⟨k + 1, by omega, by go_num, by rw [HS2.out]; exact hown.alloc _, hb.alloc hsz _, (Below.heap_alloc _ _ _ (by omega)).trans HBK.out⟩
        case measure => simp [intOf]; omega
    · obtain rfl : k = syms.length := by omega
      go_wp2
      go_ret
      exact ⟨_, rfl, by have := HOW.out; rwa [List.take_of_length_le (Nat.le_refl _)] at this, hb⟩
end Go.Proofs.Yteccpmmedpkddaa
