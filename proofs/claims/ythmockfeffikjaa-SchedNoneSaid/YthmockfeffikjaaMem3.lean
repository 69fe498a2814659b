/-
  Waits of the code's memory.
-/
import Derived.Test.YthmockfeffikjaaMem2
namespace Go.Proofs.Ythmockfeffikjaa
open Go.RowKit
variable {W : World} {base d : Nat} {v : Value} {ys : List CeR} {S : Mem} {fp : Nat → Prop}

set_option maxRecDepth 100000 in
set_option maxHeartbeats 2000000 in
theorem mwaits_any (H : MMach W base d hdM S fp) (wk : Int) (a : Ac) :
    Calls Try.prog 44 #[.pointer (some ⟨d, 0, none⟩), i64 wk, a.val] W fun e w' => e = .returned (.bool ((S.look wk a).2.2 == 231)) ∧ Below W.heap.size W w' := by
  obtain ⟨v, ys, h⟩ := H
  have HL := hid (fun w' (hb : Below W.heap.size W w') => look_any (h.below hb) wk a)
  clear h
  generalize S.look wk a = r at HL ⊢
  obtain ⟨⟨kind', n', owner', need', came', turns', there'⟩, V, E⟩ := r
  obtain ⟨ak, ac, ao, an⟩ := a
  unfold CeTellL Ce.val Ac.val at HL
  unfold Ac.val
  dsimp only [List.cons_append, List.nil_append] at *
  have hb0 : Hid (Below W.heap.size W (W.alloc (.cells #[i64 ak, i64 ac, i64 ao, i64 an] 34))) := (Below.refl _ _).alloc (Nat.le_refl _) _
  go_enter Try.func44, Try.ntmps44
  go_wp2_with (go_at_call 52; (with_reducible refine (HL.out _ hb0.out).mono ?_); rintro e w3 ⟨p3, c3, rfl, hs3, hl3, hb3⟩; have HB3 := hid (below_more hb3 hb0.out (Nat.le_refl _)); clear hs3 hl3 hb3)
  go_ret
  exact ⟨rfl, HB3.out.alloc HB3.out.size _⟩
end Go.Proofs.Ythmockfeffikjaa
