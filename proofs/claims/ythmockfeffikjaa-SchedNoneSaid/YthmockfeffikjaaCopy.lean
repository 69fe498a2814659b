/-
  The walks of copied and of the document's Clone.
-/
import Derived.Test.YthmockfeffikjaaK
import Derived.Test.YthmockfeffikjaaSlCloneI
namespace Go.Proofs.Ythmockfeffikjaa
open Go.RowKit

def CopyTell (x : Ce) (w : World) (e : Ending) (w' : World) : Prop :=
  ∃ p c, e = .returned (x.val p c) ∧ w'.ownsRow w.heap.size 3 1 (.slice p x.came.length c) x.came.length (i64s x.came) ∧ Below w.heap.size w w'

/-- What lies in the block of a parameter and of a result, behind a call. -/
theorem ce_blk1 {w w1 : World} (x : Ce) (p : Option Addr) (c : Nat) {o2 : Obj} (hb : Below ((w.alloc (.cells #[i64 x.kind, i64 x.n, i64 x.owner, i64 x.need, .slice p x.came.length c, i64 x.turns, .bool x.there] 30)).alloc o2).heap.size ((w.alloc (.cells #[i64 x.kind, i64 x.n, i64 x.owner, i64 x.need, .slice p x.came.length c, i64 x.turns, .bool x.there] 30)).alloc o2) w1) : CeFacts w1 w.heap.size x p c :=
  CeBlk.facts (w := w1) (b := w.heap.size) (x := x) (p := p) (c := c) ((hb.block _ (by simp; omega)).trans ((Below.heap_alloc _ _ _ (by simp)).trans (heap_alloc_new w _)))
theorem ce_blk2 {w w1 : World} {o1 : Obj} (hb : Below ((w.alloc o1).alloc (.cells #[.int .i64 0, .int .i64 0, .int .i64 0, .int .i64 0, .slice none 0 0, .int .i64 0, .bool false] 30)).heap.size ((w.alloc o1).alloc (.cells #[.int .i64 0, .int .i64 0, .int .i64 0, .int .i64 0, .slice none 0 0, .int .i64 0, .bool false] 30)) w1) : CeFacts w1 (w.heap.size + 1) ce0 none 0 :=
  CeBlk.facts (w := w1) (b := w.heap.size + 1) (x := ce0) (p := none) (c := 0) ((hb.block _ (by simp)).trans (by have := heap_alloc_new (w.alloc o1) (.cells #[.int .i64 0, .int .i64 0, .int .i64 0, .int .i64 0, .slice none 0 0, .int .i64 0, .bool false] 30 (0, 0)); rw [World.size_alloc] at this; exact this))

set_option maxHeartbeats 1000000 in
theorem copied_any (x : Ce) (p : Option Addr) (c : Nat) (w : World) (hm : x.came.length ≤ 17592186043904) (hsl : SlAt w p c x.came) :
    Calls Try.prog 47 #[x.val p c] w (CopyTell x w) := by
  obtain ⟨kind, n, owner, need, came, turns, there⟩ := x
  unfold Ce.val
  dsimp only at hm hsl ⊢
  have hp := hsl.2.2.1
  have hrow := hsl.2.2.2
  clear hsl
  have HC := hid (fun w1 (hr : Row w1 p (i64s came)) => cloneI_any p c came w1 hm hp hr)
  go_enter Try.func47, Try.ntmps47
  go_wp2_with (go_at_call 57; refine (HC.out _ ((hrow.alloc _).alloc _)).mono ?_; rintro e w1 ⟨v, rfl, ho, hb⟩; have hz := hb.size; have HO := hid ho; obtain ⟨vp, vc, rfl, hr⟩ := own_shape ho; simp only [World.size_alloc] at hz; obtain ⟨⟨k0, k1, k2, k3, k4, k5, k6⟩, kf, kl⟩ := ce_blk1 ⟨kind, n, owner, need, came, turns, there⟩ p c hb; obtain ⟨⟨j0, j1, j2, j3, j4, j5, j6⟩, jf, jl⟩ := ce_blk2 hb)
  exact bodyPost_ret (v := (Ce.mk kind n owner need came turns there).val vp vc) (by simp [results, Try.results47, go_sem, Ce.val, k0, k1, k2, k3, k4, k5, k6, j0, j1, j2, j3, j4, j5, j6]) rfl (by
    refine ⟨vp, vc, rfl, ?_, ?_⟩
    · repeat (refine own_setO ?_ _ _ (fun g hg => by have := own_ge HO.out g hg; simp at this ⊢; omega))
      exact own_lower HO.out (by simp; omega)
    · repeat (refine Below.setCell ?_ (by simp) _)
      exact (((Below.refl _ _).alloc (Nat.le_refl _) _).alloc (by simp) _).trans (hb.mono (by simp; omega)))

set_option maxHeartbeats 1000000 in
theorem rclone_any (x : Ce) (p : Option Addr) (c : Nat) (w : World) (hm : x.came.length ≤ 17592186043904) (hsl : SlAt w p c x.came) :
    Calls Try.prog 59 #[x.val p c] w (CopyTell x w) := by
  obtain ⟨kind, n, owner, need, came, turns, there⟩ := x
  unfold Ce.val
  dsimp only at hm hsl ⊢
  have hp := hsl.2.2.1
  have hrow := hsl.2.2.2
  clear hsl
  go_enter Try.func59, Try.ntmps59
  go_wp2_with ((with_reducible show wpList _ _ _ (⟨some 5, _, _, _, _, _⟩ :: _) _ _); go_loud (refine wpList_app EI rfl _ _ rfl (w.heap.size + 2) (.slice none 0 0) 0 [] rfl (World.ownsRow_nil _ _ _ _) _ _ _ (i64s came) rfl (by simp) hp ((hrow.alloc _).alloc _) (ints_one came) (by unfold maxLen; omega) (by omega) (by simp) ?_); intro v2 w1 ho hg hs; rw [Nat.zero_add, List.nil_append] at ho; have hb := (Below.refl _ _).grown hg (Nat.le_refl _) (by simp [Value.ownBlock]); have hz := hb.size; have HO := hid ho; obtain ⟨vp, vc, rfl, hr⟩ := own_shape ho; simp only [World.size_alloc] at hz; obtain ⟨⟨k0, k1, k2, k3, k4, k5, k6⟩, kf, kl⟩ := ce_blk1 ⟨kind, n, owner, need, came, turns, there⟩ p c hb; obtain ⟨⟨j0, j1, j2, j3, j4, j5, j6⟩, jf, jl⟩ := ce_blk2 hb)
  exact bodyPost_ret (v := (Ce.mk kind n owner need came turns there).val vp vc) (by simp [results, Try.results59, go_sem, Ce.val, k0, k1, k2, k3, k4, k5, k6, j0, j1, j2, j3, j4, j5, j6]) rfl (by
    refine ⟨vp, vc, rfl, ?_, ?_⟩
    · repeat (refine own_setO ?_ _ _ (fun g hg => by have := own_ge HO.out g hg; simp at this ⊢; omega))
      exact own_lower HO.out (by simp)
    · repeat (refine Below.setCell ?_ (by simp) _)
      exact (((Below.refl _ _).alloc (Nat.le_refl _) _).alloc (by simp) _).trans (hb.mono (by simp; omega)))
end Go.Proofs.Ythmockfeffikjaa
