/-
  Where a name is: the document's walks.
-/
import Derived.Test.YteccpmmedpkddaaOb
import Derived.Test.YteccpmmedpkddaaShelf
namespace Go.Proofs.Yteccpmmedpkddaa
open Go.RowKit

def named (s x : ByteArray) : Bool := x.toList == s.toList
/-- Where a name comes first. -/
def idxP (l : List ByteArray) (s : ByteArray) : Option Nat := l.findIdx? (named s)
def idxV (r : Option Nat) : Value := .tuple #[.int .i64 ((r.getD 0 : Nat) : Int), .bool r.isSome]
theorem idxP_some {l : List ByteArray} {s : ByteArray} {k : Nat} (h : k < l.length) (hn : named s l[k] = true) (ha : ∀ j (hj : j < l.length), j < k → named s l[j] = false) : idxP l s = some k := by
  unfold idxP
  rw [List.findIdx?_eq_some_iff_getElem]
  exact ⟨h, hn, fun j hj => by simp [ha j (by omega) hj]⟩
theorem idxP_none {l : List ByteArray} {s : ByteArray} (ha : ∀ j (hj : j < l.length), named s l[j] = false) : idxP l s = none := by
  unfold idxP
  rw [List.findIdx?_eq_none_iff]
  intro x hx
  obtain ⟨j, hj, rfl⟩ := List.getElem_of_mem hx
  simp [ha j hj]

theorem rfind_any (o : Ob) (s : ByteArray) (w : World) (ho : o.ok w) :
    Calls Try.prog 18 #[.agg o.cells.toArray, .string s] w fun e w' => e = .returned (idxV (idxP (o.syms.map Sy.name) s)) ∧ Below w.heap.size w w' := by
  have hrow := ho.syms
  have hcap := ho.ycap
  obtain ⟨secs, sp, sc, syms, yp, yc⟩ := o
  dsimp only at hrow hcap ⊢
  clear ho
  obtain ⟨hc1, hc2, _⟩ := hcap
  show Calls Try.prog 18 #[.agg #[.slice sp secs.length sc, .slice yp syms.length yc], .string s] w _
  have hbx : Below w.heap.size w (w.alloc (.cells #[.slice sp secs.length sc, .slice yp syms.length yc] 25)) := (Below.refl _ _).alloc (Nat.le_refl _) _
  go_enter Try.func18, Try.ntmps18
  go_wp2
  go_loop [6] (fun i => ∃ k : Nat, k ≤ syms.length ∧ i = .int .i64 k ∧ ∀ j (hj : j < syms.length), j < k → named s (syms[j]).name = false) (fun i => syms.length - (intOf i).toNat)
  case atStart => exact ⟨0, Nat.zero_le _, rfl, fun j _ hj => by omega⟩
  case round =>
    obtain ⟨k, hk, rfl, hok⟩ := hrel
    have HOK := hid hok
    clear hok
    by_cases hlt : k < syms.length
    · obtain ⟨b, off, rfl, hbs, hzz⟩ := hrow.at (by have := flat_len Sy.cells 4 (fun _ => rfl) syms; omega)
      clear hzz
      obtain ⟨c0, c1, c2, c3⟩ := sy_cells hrow k hlt
      obtain ⟨nm, hnm⟩ : ∃ nm, nm = syms[k].name := ⟨_, rfl⟩
      rw [← hnm] at c0
      have HNM := hid hnm
      clear hnm c1 c2 c3
      cases hc : (nm.toList == s.toList) with
      | true =>
        have HF : Hid (idxP (syms.map Sy.name) s = some k) := idxP_some (by simpa using hlt) (by rw [List.getElem_map, ← HNM.out]; exact hc) (fun j hj hjk => by rw [List.getElem_map]; exact HOK.out j (by simpa using hj) hjk)
        go_wp2
        go_ret2
        exact ⟨by rw [HF.out]; rfl, hbx⟩
      | false =>
        have HC := hid hc
        go_wp2
        go_round
        case rel => exact ⟨k + 1, by omega, by go_num, fun j hj hjk => by
          by_cases e : j = k
          · subst e; unfold named; rw [← HNM.out]; exact HC.out
          · exact HOK.out j hj (by omega)⟩
        case measure => simp [intOf]; omega
    · have HF : Hid (idxP (syms.map Sy.name) s = none) := idxP_none (fun j hj => by rw [List.getElem_map]; exact HOK.out j (by simpa using hj) (by simp at hj; omega))
      go_wp2
      go_ret2
      exact ⟨by rw [HF.out]; rfl, hbx⟩

theorem rsect_any (o : Ob) (s : ByteArray) (w : World) (ho : o.ok w) :
    Calls Try.prog 19 #[.agg o.cells.toArray, .string s] w fun e w' => e = .returned (idxV (idxP (o.secs.map Sc.name) s)) ∧ Below w.heap.size w w' := by
  have hrow := ho.secs
  have hcap := ho.scap
  obtain ⟨secs, sp, sc, syms, yp, yc⟩ := o
  dsimp only at hrow hcap ⊢
  clear ho
  obtain ⟨hc1, hc2, _⟩ := hcap
  show Calls Try.prog 19 #[.agg #[.slice sp secs.length sc, .slice yp syms.length yc], .string s] w _
  have hbx : Below w.heap.size w (w.alloc (.cells #[.slice sp secs.length sc, .slice yp syms.length yc] 25)) := (Below.refl _ _).alloc (Nat.le_refl _) _
  go_enter Try.func19, Try.ntmps19
  go_wp2
  go_loop [6] (fun i => ∃ k : Nat, k ≤ secs.length ∧ i = .int .i64 k ∧ ∀ j (hj : j < secs.length), j < k → named s (secs[j]).name = false) (fun i => secs.length - (intOf i).toNat)
  case atStart => exact ⟨0, Nat.zero_le _, rfl, fun j _ hj => by omega⟩
  case round =>
    obtain ⟨k, hk, rfl, hok⟩ := hrel
    have HOK := hid hok
    clear hok
    by_cases hlt : k < secs.length
    · obtain ⟨b, off, rfl, hbs, hzz⟩ := hrow.at (by have := flat_len Sc.cells 6 (fun _ => rfl) secs; omega)
      clear hzz
      obtain ⟨c0, c1, c2, c3, c4, c5⟩ := sc_cells hrow k hlt
      obtain ⟨nm, hnm⟩ : ∃ nm, nm = secs[k].name := ⟨_, rfl⟩
      rw [← hnm] at c0
      have HNM := hid hnm
      clear hnm c1 c2 c3 c4 c5
      cases hc : (nm.toList == s.toList) with
      | true =>
        have HF : Hid (idxP (secs.map Sc.name) s = some k) := idxP_some (by simpa using hlt) (by rw [List.getElem_map, ← HNM.out]; exact hc) (fun j hj hjk => by rw [List.getElem_map]; exact HOK.out j (by simpa using hj) hjk)
        go_wp2
        go_ret2
        exact ⟨by rw [HF.out]; rfl, hbx⟩
      | false =>
        have HC := hid hc
        go_wp2
        go_round
        case rel => exact ⟨k + 1, by omega, by go_num, fun j hj hjk => by
          by_cases e : j = k
          · subst e; unfold named; rw [← HNM.out]; exact HC.out
          · exact HOK.out j hj (by omega)⟩
        case measure => simp [intOf]; omega
    · have HF : Hid (idxP (secs.map Sc.name) s = none) := idxP_none (fun j hj => by rw [List.getElem_map]; exact HOK.out j (by simpa using hj) (by simp at hj; omega))
      go_wp2
      go_ret2
      exact ⟨by rw [HF.out]; rfl, hbx⟩
end Go.Proofs.Yteccpmmedpkddaa
