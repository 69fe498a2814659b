/-
  The kind of a section's name, and how many bytes a relocation changes: both walks of each.
-/
import Derived.Test.YteccpmmedpkddaaBase
import Derived.Test.YteccpmmedpkddaaShelf
import Derived.WalkLawsBesides
import Derived.WalkSpells
import Derived.IntWalk
import Derived.Lib.IndexBytes
namespace Go.Proofs.Yteccpmmedpkddaa
open Go.RowKit

def widthP (k : Int) : Int :=
  if k = 257 ∨ k = 260 then 8 else if k = 259 ∨ k = 262 then 2
  else if k = 258 ∨ k = 261 ∨ k = 273 ∨ k = 274 ∨ k = 275 ∨ k = 277 ∨ k = 278 ∨ k = 279 ∨ k = 280 ∨ k = 282 ∨ k = 283 ∨ k = 284 ∨ k = 285 ∨ k = 286 then 4 else 0

theorem width_any (k : Int) (w : World) : Calls Try.prog 11 #[.int .i64 k] w fun e w' => e = .returned (.int .i64 (widthP k)) ∧ w = w' := by
  go_enter Try.func11, Try.ntmps11
  go_wp2
  all_goals (go_ret; refine ⟨ret_int ?_, rfl⟩; simp_all [widthP])

def begL (s : ByteArray) (l : List UInt8) : Bool := s.toList == l || Lib.hasPrefix s.data.toList (l ++ [46])
theorem point_size (p : ByteArray) : (p ++ ⟨#[46]⟩ : ByteArray).size = p.size + 1 := by
  rw [ByteArray.size_append]; rfl
theorem point_data (p : ByteArray) : (p ++ ⟨#[46]⟩ : ByteArray).data.toList = p.data.toList ++ [46] := by
  simp
theorem ext_pre (s p : ByteArray) (h : p.size < s.size) : ((s.extract 0 (p.size + 1)).toList == (p ++ ⟨#[46]⟩ : ByteArray).toList) = Lib.hasPrefix s.data.toList (p.data.toList ++ [46]) := by
  have hz := point_size p
  have := Lib.occ_of_piece s (p ++ ⟨#[46]⟩ : ByteArray) 0 (by omega)
  rw [Nat.zero_add, hz] at this
  rw [← this, Lib.occAt, List.drop_zero, Lib.hasPrefix, point_data]
theorem pre_short (s p : ByteArray) (h : ¬ p.size < s.size) : Lib.hasPrefix s.data.toList (p.data.toList ++ [46]) = false := by
  rw [Lib.hasPrefix, Bool.eq_false_iff]
  intro e
  have h1 := (List.isPrefixOf_iff_prefix.1 e).length_le
  have h2 : p.data.toList.length = p.size := rfl
  have h3 : s.data.toList.length = s.size := rfl
  simp only [List.length_append, List.length_singleton] at h1
  omega
set_option maxHeartbeats 400000 in
theorem begins_any (s p : ByteArray) (w : World) (hp : p.size ≤ 1000) : Calls Try.prog 35 #[.string s, .string p] w fun e w' => e = .returned (.bool (begL s p.data.toList)) ∧ w = w' := by
  have hi : (IntKind.i64.wrap ((p.size : Int) + 1)) = p.size + 1 := IntWalk.i64_in _ (by omega)
  have HE := hid (ext_pre s p)
  rcases Classical.em (s.toList = p.toList) with h1 | h1
  · go_enter Try.func35, Try.ntmps35
    go_wp2
    go_ret
    refine ⟨ret_bool ?_, rfl⟩
    simp [begL, ← Lib.toList_data, h1]
  · have h1' : (s.toList == p.toList) = false := by simpa using h1
    have H1 := hid h1'
    rcases Classical.em (p.size < s.size) with h2 | h2
    · go_enter Try.func35, Try.ntmps35
      go_wp2
      go_ret
      refine ⟨ret_bool ?_, rfl⟩
      rw [HE.out h2]
      simp [begL, ← Lib.toList_data, h1]
    · have h2' : s.size ≤ p.size := by omega
      go_enter Try.func35, Try.ntmps35
      go_wp2
      go_ret
      refine ⟨ret_bool ?_, rfl⟩
      have h1d : ¬ s.toList = p.data.toList := by rw [← Lib.toList_data]; exact h1
      simp [begL, h1d, pre_short s p h2]

def kindP (s : ByteArray) : Int := if begL s [46, 116, 101, 120, 116] then 1 else if begL s [46, 114, 111, 100, 97, 116, 97] then 3 else if begL s [46, 98, 115, 115] then 4 else 2
theorem rkind_any (s : ByteArray) (w : World) : Calls Try.prog 10 #[.string s] w fun e w' => e = .returned (.int .i64 (kindP s)) ∧ w = w' := by
  have H := hid (fun p w hp => begins_any s p w hp)
  unfold kindP
  go_enter Try.func10, Try.ntmps10
  go_wp2_with (go_at_call 35; refine (H.out _ _ (by decide)).mono ?_; rintro e w' ⟨rfl, rfl⟩)
  all_goals (go_ret; refine ⟨ret_int ?_, rfl⟩; simp_all)
set_option maxHeartbeats 1000000 in
theorem kind_any (s : ByteArray) (w : World) : Calls Try.prog 9 #[.string s] w fun e w' => e = .returned (.int .i64 (kindP s)) ∧ Below w.heap.size w w' := by
  have HP := hid (fun p w => Try.strings_HasPrefix s p w)
  go_enter Try.func9, Try.ntmps9
  go_wp2
  refine wp_loop_rounds 4 ?_
  rw [rounds_succ]
  go_wp2_with (go_at_call 34; refine (HP.out _ _).mono ?_; rintro e w' ⟨rfl, rfl⟩)
  all_goals try (rw [rounds_succ]; go_wp2_with (go_at_call 34; refine (HP.out _ _).mono ?_; rintro e w' ⟨rfl, rfl⟩))
  all_goals try (rw [rounds_succ]; go_wp2_with (go_at_call 34; refine (HP.out _ _).mono ?_; rintro e w' ⟨rfl, rfl⟩))
  all_goals try (rw [rounds_succ]; go_wp2)
  all_goals (go_ret; refine ⟨ret_int ?_, ?_⟩)
  all_goals first | (simp_all [kindP, begL]; done) | (repeat' (first | exact Below.refl _ _ | refine Below.alloc ?_ (by simp <;> omega) _))
end Go.Proofs.Yteccpmmedpkddaa
