/-
  A memory that no call made: what each function answers.
-/
import Derived.Test.YtfpgdaefdpjcmaaLive
namespace Go.Proofs.Ytfpgdaefdpjcmaa
open Go.RowKit

/-- No call made it. -/
def NoMem (w : World) (m : Value) : Prop := m = .pointer none ∨ ∃ b, m = .pointer (some ⟨b, 0, none⟩) ∧ w.heap[b]? = some (.cells #[.bool false, .slice none 0 0, i64 0] 56 (0, 0))
theorem NoMem.below {w w' : World} {m : Value} (h : NoMem w m) (hb : Below w.heap.size w w') : NoMem w' m := by
  rcases h with rfl | ⟨b, rfl, h⟩
  · exact .inl rfl
  · exact .inr ⟨b, rfl, (hb.block b (Array.getElem?_eq_some_iff.1 h).1).trans h⟩
theorem nomem_facts {w : World} {b : Nat} (h : w.heap[b]? = some (.cells #[.bool false, .slice none 0 0, i64 0] 56 (0, 0))) :
    (w.cell? ⟨b, 0, none⟩ = some (.bool false) ∧ w.cell? ⟨b, 1, none⟩ = some (.slice none 0 0) ∧ w.cell? ⟨b, 2, none⟩ = some (i64 0)) ∧ b < w.heap.size :=
  ⟨⟨cell_of_row w b 0 _ _ _ h, cell_of_row w b 1 _ _ _ h, cell_of_row w b 2 _ _ _ h⟩, (Array.getElem?_eq_some_iff.1 h).1⟩

theorem look_none (m : Value) (wk : Int) (a : Ac) (w : World) (hm : NoMem w m) :
    Calls Try.prog 46 #[m, i64 wk, a.val] w fun e w' => e = .returned (.tuple #[ce0.val none 0, i64 0, i64 2]) ∧ Below w.heap.size w w' := by
  obtain ⟨ak, ac, ao, an⟩ := a
  unfold Ac.val
  dsimp only
  rcases hm with rfl | ⟨b, rfl, h⟩
  · go_enter Try.func46, Try.ntmps46
    go_wp2
    exact bodyPost_ret (v := .tuple #[ce0.val none 0, i64 0, i64 2]) (by simp [results, Try.results46, go_sem, Ce.val, ce0]) rfl ⟨rfl, ((Below.refl _ _).alloc (Nat.le_refl _) _).alloc (by simp) _⟩
  · obtain ⟨⟨k0, k1, k2⟩, kl⟩ := nomem_facts h
    clear h
    go_enter Try.func46, Try.ntmps46
    go_wp2
    exact bodyPost_ret (v := .tuple #[ce0.val none 0, i64 0, i64 2]) (by simp [results, Try.results46, go_sem, Ce.val, ce0]) rfl ⟨rfl, ((Below.refl _ _).alloc (Nat.le_refl _) _).alloc (by simp) _⟩

theorem do_none (m : Value) (wk : Int) (a : Ac) (w : World) (hm : NoMem w m) :
    Calls Try.prog 22 #[m, i64 wk, a.val] w fun e w' => e = .returned (.tuple #[i64 0, i64 2]) ∧ Below w.heap.size w w' := by
  have HLK := hid (fun w1 (hb : Below w.heap.size w w1) => look_none m wk a w1 (hm.below hb))
  obtain ⟨ak, ac, ao, an⟩ := a
  unfold Ac.val ce0 Ce.val at HLK
  unfold Ac.val
  dsimp only [List.length_nil] at HLK ⊢
  go_enter Try.func22, Try.ntmps22
  go_wp2_with (go_at_call 46; refine (HLK.out _ ((Below.refl _ _).alloc (Nat.le_refl _) _)).mono ?_; rintro e w1 ⟨rfl, hb1⟩)
  have hbw1 := ((Below.refl w.heap.size w).alloc (Nat.le_refl _) (.cells #[i64 ak, i64 ac, i64 ao, i64 an] 26)).trans (hb1.mono (by simp))
  exact bodyPost_ret (v := .tuple #[i64 0, i64 2]) (by simp [results, Try.results22, go_sem]) rfl ⟨rfl, hbw1.alloc hbw1.size _⟩

theorem waits_none (m : Value) (wk : Int) (a : Ac) (w : World) (hm : NoMem w m) :
    Calls Try.prog 24 #[m, i64 wk, a.val] w fun e w' => e = .returned (.bool false) ∧ Below w.heap.size w w' := by
  have HLK := hid (fun w1 (hb : Below w.heap.size w w1) => look_none m wk a w1 (hm.below hb))
  obtain ⟨ak, ac, ao, an⟩ := a
  unfold Ac.val ce0 Ce.val at HLK
  unfold Ac.val
  dsimp only [List.length_nil] at HLK ⊢
  go_enter Try.func24, Try.ntmps24
  go_wp2_with (go_at_call 46; refine (HLK.out _ ((Below.refl _ _).alloc (Nat.le_refl _) _)).mono ?_; rintro e w1 ⟨rfl, hb1⟩)
  have hbw1 := ((Below.refl w.heap.size w).alloc (Nat.le_refl _) (.cells #[i64 ak, i64 ac, i64 ao, i64 an] 26)).trans (hb1.mono (by simp))
  go_ret
  exact ⟨ret_bool rfl, hbw1.alloc hbw1.size _⟩

theorem steps_none (m : Value) (w : World) (hm : NoMem w m) :
    Calls Try.prog 25 #[m] w fun e w' => e = .returned (i64 0) ∧ Below w.heap.size w w' := by
  rcases hm with rfl | ⟨b, rfl, h⟩
  · go_enter Try.func25, Try.ntmps25
    go_wp2
    go_ret
    exact ⟨rfl, Below.refl _ _⟩
  · obtain ⟨⟨k0, k1, k2⟩, kl⟩ := nomem_facts h
    clear h
    go_enter Try.func25, Try.ntmps25
    go_wp2
    go_ret
    exact ⟨rfl, Below.refl _ _⟩

theorem clone_none (m : Value) (w : World) (hm : NoMem w m) :
    Calls Try.prog 26 #[m] w fun e w' => e = .returned (.pointer none) ∧ Below w.heap.size w w' := by
  rcases hm with rfl | ⟨b, rfl, h⟩
  · go_enter Try.func26, Try.ntmps26
    go_wp2
    go_ret
    exact ⟨rfl, Below.refl _ _⟩
  · obtain ⟨⟨k0, k1, k2⟩, kl⟩ := nomem_facts h
    clear h
    go_enter Try.func26, Try.ntmps26
    go_wp2
    go_ret
    exact ⟨rfl, Below.refl _ _⟩

theorem all_none (m : Value) (w : World) (hm : NoMem w m) :
    Calls Try.prog 23 #[m] w fun e w' => e = .returned (.func (.func 47) #[] #[.pointer (some ⟨w.heap.size, 0, none⟩)]) ∧ w'.cell? ⟨w.heap.size, 0, none⟩ = some (.slice none 0 0) ∧ Below w.heap.size w w' ∧ w.heap.size < w'.heap.size := by
  have HN := hid (heap_alloc_new w (.cells #[.slice none 0 0] 31 (0, 0)))
  rcases hm with rfl | ⟨b, rfl, h⟩
  · go_enter Try.func23, Try.ntmps23
    go_wp2
    go_ret
    exact ⟨rfl, cell_of_row _ _ 0 _ _ _ HN.out, (Below.refl _ _).alloc (Nat.le_refl _) _, by simp⟩
  · obtain ⟨⟨k0, k1, k2⟩, kl⟩ := nomem_facts h
    clear h
    go_enter Try.func23, Try.ntmps23
    go_wp2
    refine wp_loop_once ?_
    go_wp2
    go_ret
    exact ⟨rfl, cell_of_row _ _ 0 _ _ _ HN.out, (Below.refl _ _).alloc (Nat.le_refl _) _, by simp⟩
end Go.Proofs.Ytfpgdaefdpjcmaa
