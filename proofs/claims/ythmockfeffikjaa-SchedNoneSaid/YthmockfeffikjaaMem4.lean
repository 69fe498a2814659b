/-
  Do of the code's memory.
-/
import Derived.Test.YthmockfeffikjaaMem3
namespace Go.Proofs.Ythmockfeffikjaa
open Go.RowKit
variable {W : World} {base d : Nat} {v : Value} {ys : List CeR} {S : Mem} {fp : Nat → Prop}

/-- What an access does to a memory. -/
def DoTell (W : World) (base d : Nat) (hd : Value → Int → Obj) (S : Mem) (fp : Nat → Prop) (wk : Int) (a : Ac) (e : Ending) (w' : World) : Prop :=
  e = .returned (.tuple #[i64 (S.tell wk a).1, i64 (S.tell wk a).2]) ∧ ∃ fp', MMach w' base d hd (S.step wk a) fp' ∧ (∀ k, fp' k → fp k ∨ W.heap.size ≤ k) ∧ Turn fp W w' ∧ Below base W w'

set_option maxRecDepth 100000 in
set_option maxHeartbeats 2000000 in
theorem do_err (H : MMach W base d hdM S fp) (wk : Int) (a : Ac) (he : (S.look wk a).2.2 ≠ 0) :
    Calls Try.prog 43 #[.pointer (some ⟨d, 0, none⟩), i64 wk, a.val] W (DoTell W base d hdM S fp wk a) := by
  have e1 : S.step wk a = S := by unfold Mem.step; rw [if_neg he]
  have e2 : S.tell wk a = (0, (S.look wk a).2.2) := by unfold Mem.tell; rw [if_neg he]
  unfold DoTell
  rw [e1, e2]
  clear e1 e2
  have HM := hid H
  obtain ⟨v, ys, h⟩ := H
  have hbs : Hid (base ≤ W.heap.size) := Nat.le_trans h.bd (Nat.le_of_lt (h.lt _ h.fd))
  have HL := hid (fun w' (hb : Below W.heap.size W w') => look_any (h.below hb) wk a)
  clear h
  generalize S.look wk a = r at HL he ⊢
  obtain ⟨⟨kind', n', owner', need', came', turns', there'⟩, V, E⟩ := r
  obtain ⟨ak, ac, ao, an⟩ := a
  unfold CeTellL Ce.val Ac.val at HL
  unfold Ac.val
  dsimp only [List.cons_append, List.nil_append] at *
  have hne : (E != 0) = true := by simpa using he
  clear he
  have hb0 : Hid (Below W.heap.size W (W.alloc (.cells #[i64 ak, i64 ac, i64 ao, i64 an] 34))) := (Below.refl _ _).alloc (Nat.le_refl _) _
  go_enter Try.func43, Try.ntmps43
  go_wp2_with (go_at_call 52; (with_reducible refine (HL.out _ hb0.out).mono ?_); rintro e w3 ⟨p3, c3, rfl, hs3, hl3, hb3⟩; have HB3 := hid (below_more hb3 hb0.out (Nat.le_refl _)); clear hs3 hl3 hb3)
  have hb := HB3.out.alloc HB3.out.size (.cells #[i64 kind', i64 n', i64 owner', i64 need', .slice p3 came'.length c3, i64 turns', .bool there'] 30)
  exact bodyPost_ret (v := .tuple #[i64 0, i64 E]) (by simp [results, Try.results43, go_sem]) rfl ⟨rfl, fp, HM.out.below hb, fun _ h => .inl h, Turn.of_below hb, hb.mono hbs.out⟩
end Go.Proofs.Ythmockfeffikjaa
