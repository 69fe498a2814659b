/-
  The walks of copied and of the document's Clone.
  The walk of slices.Equal at slices of int.
  The walks of Same, the program's and the document's.
-/
import Derived.Test.YthmockfeffikjaaJE2
import Derived.Test.YthmockfeffikjaaJE3
namespace Go.Proofs.Ythmockfeffikjaa
open Go.RowKit

def CopyTell (x : Ce) (w : World) (e : Ending) (w' : World) : Prop :=
  ∃ p c, e = .returned (x.val p c) ∧ w'.ownsRow w.heap.size 3 1 (.slice p x.came.length c) x.came.length (i64s x.came) ∧ Below w.heap.size w w'

/-- What lies in the block of a parameter and of a result, behind a call. -/
theorem ce_blk1 {w w1 : World} (x : Ce) (p : Option Addr) (c : Nat) {o2 : Obj} (hb : Below ((w.alloc (.cells #[i64 x.kind, i64 x.n, i64 x.owner, i64 x.need, .slice p x.came.length c, i64 x.turns, .bool x.there] 30)).alloc o2).heap.size ((w.alloc (.cells #[i64 x.kind, i64 x.n, i64 x.owner, i64 x.need, .slice p x.came.length c, i64 x.turns, .bool x.there] 30)).alloc o2) w1) : CeFacts w1 w.heap.size x p c :=
  CeBlk.facts (w := w1) (b := w.heap.size) (x := x) (p := p) (c := c) ((hb.block _ (by simp; omega)).trans ((Below.heap_alloc _ _ _ (by simp)).trans (heap_alloc_new w _)))
theorem ce_blk2 {w w1 : World} {o1 : Obj} (hb : Below ((w.alloc o1).alloc (.cells #[.int .i64 0, .int .i64 0, .int .i64 0, .int .i64 0, .slice none 0 0, .int .i64 0, .bool false] 30)).heap.size ((w.alloc o1).alloc (.cells #[.int .i64 0, .int .i64 0, .int .i64 0, .int .i64 0, .slice none 0 0, .int .i64 0, .bool false] 30)) w1) : CeFacts w1 (w.heap.size + 1) ce0 none 0 :=
  CeBlk.facts (w := w1) (b := w.heap.size + 1) (x := ce0) (p := none) (c := 0) ((hb.block _ (by simp)).trans (by have := heap_alloc_new (w.alloc o1) (.cells #[.int .i64 0, .int .i64 0, .int .i64 0, .int .i64 0, .slice none 0 0, .int .i64 0, .bool false] 30 (0, 0)); rw [World.size_alloc] at this; exact this))

set_option maxHeartbeats 1000000 in
theorem copied_any (x : Ce) (p : Option Addr) (c : Nat) (w : World) (hm : x.came.length ≤ 17592186043904) (hsl : SlAt w p c x.came) :
    Calls Try.prog 47 #[x.val p c] w (CopyTell x w) := by
  obtain ⟨kind, n, owner, need, came, turns, there⟩ := x
  unfold Ce.val
  dsimp only at hm hsl ⊢
  have hp := hsl.2.2.1
  have hrow := hsl.2.2.2
  clear hsl
  have HC := hid (fun w1 (hr : Row w1 p (i64s came)) => cloneI_any p c came w1 hm hp hr)
  go_enter Try.func47, Try.ntmps47
  go_wp2_with (go_at_call 57; refine (HC.out _ ((hrow.alloc _).alloc _)).mono ?_; rintro e w1 ⟨v, rfl, ho, hb⟩; have hz := hb.size; have HO := hid ho; obtain ⟨vp, vc, rfl, hr⟩ := own_shape ho; simp only [World.size_alloc] at hz; obtain ⟨⟨k0, k1, k2, k3, k4, k5, k6⟩, kf, kl⟩ := ce_blk1 ⟨kind, n, owner, need, came, turns, there⟩ p c hb; obtain ⟨⟨j0, j1, j2, j3, j4, j5, j6⟩, jf, jl⟩ := ce_blk2 hb)
  exact bodyPost_ret (v := (Ce.mk kind n owner need came turns there).val vp vc) (by simp [results, Try.results47, go_sem, Ce.val, k0, k1, k2, k3, k4, k5, k6, j0, j1, j2, j3, j4, j5, j6]) rfl (by
    refine ⟨vp, vc, rfl, ?_, ?_⟩
    · repeat (refine own_setO ?_ _ _ (fun g hg => by have := own_ge HO.out g hg; simp at this ⊢; omega))
      exact own_lower HO.out (by simp; omega)
    · repeat (refine Below.setCell ?_ (by simp) _)
      exact (((Below.refl _ _).alloc (Nat.le_refl _) _).alloc (by simp) _).trans (hb.mono (by simp; omega)))

set_option maxHeartbeats 1000000 in
theorem rclone_any (x : Ce) (p : Option Addr) (c : Nat) (w : World) (hm : x.came.length ≤ 17592186043904) (hsl : SlAt w p c x.came) :
    Calls Try.prog 59 #[x.val p c] w (CopyTell x w) := by
  obtain ⟨kind, n, owner, need, came, turns, there⟩ := x
  unfold Ce.val
  dsimp only at hm hsl ⊢
  have hp := hsl.2.2.1
  have hrow := hsl.2.2.2
  clear hsl
  go_enter Try.func59, Try.ntmps59
  go_wp2_with ((with_reducible show wpList _ _ _ (⟨some 5, _, _, _, _, _⟩ :: _) _ _); go_loud (refine wpList_app EI rfl _ _ rfl (w.heap.size + 2) (.slice none 0 0) 0 [] rfl (World.ownsRow_nil _ _ _ _) _ _ _ (i64s came) rfl (by simp) hp ((hrow.alloc _).alloc _) (ints_one came) (by unfold maxLen; omega) (by omega) (by simp) ?_); intro v2 w1 ho hg hs; rw [Nat.zero_add, List.nil_append] at ho; have hb := (Below.refl _ _).grown hg (Nat.le_refl _) (by simp [Value.ownBlock]); have hz := hb.size; have HO := hid ho; obtain ⟨vp, vc, rfl, hr⟩ := own_shape ho; simp only [World.size_alloc] at hz; obtain ⟨⟨k0, k1, k2, k3, k4, k5, k6⟩, kf, kl⟩ := ce_blk1 ⟨kind, n, owner, need, came, turns, there⟩ p c hb; obtain ⟨⟨j0, j1, j2, j3, j4, j5, j6⟩, jf, jl⟩ := ce_blk2 hb)
  exact bodyPost_ret (v := (Ce.mk kind n owner need came turns there).val vp vc) (by simp [results, Try.results59, go_sem, Ce.val, k0, k1, k2, k3, k4, k5, k6, j0, j1, j2, j3, j4, j5, j6]) rfl (by
    refine ⟨vp, vc, rfl, ?_, ?_⟩
    · repeat (refine own_setO ?_ _ _ (fun g hg => by have := own_ge HO.out g hg; simp at this ⊢; omega))
      exact own_lower HO.out (by simp)
    · repeat (refine Below.setCell ?_ (by simp) _)
      exact (((Below.refl _ _).alloc (Nat.le_refl _) _).alloc (by simp) _).trans (hb.mono (by simp; omega)))
end Go.Proofs.Ythmockfeffikjaa
namespace Go.Proofs.Ythmockfeffikjaa
open Go.RowKit

set_option maxHeartbeats 1000000 in
theorem eqI_any (p q : Option Addr) (c d : Nat) (l m : List Int) (w : World) (h1 : Row w p (i64s l)) (h2 : Row w q (i64s m)) (hl : l.length ≤ maxLen) (hm : m.length ≤ maxLen) :
    Calls Try.prog 67 #[.slice p l.length c, .slice q m.length d] w fun e w' => e = .returned (.bool (decide (l = m))) ∧ Below w.heap.size w w' := by
  unfold maxLen at hl hm
  by_cases hlm : l.length = m.length
  · have HM := hid hlm
    rw [← hlm]
    clear hlm
    have hne : (((l.length : Nat) : Int) != (l.length : Int)) = false := by simp
    go_enter Try.func67, Try.ntmps67
    go_wp2
    go_loopw [13] (fun i wr => ∃ k : Nat, k ≤ l.length ∧ i = .int .i64 k ∧ l.take k = m.take k ∧ Below w.heap.size w wr) (fun i _ => l.length - (intOf i).toNat)
    case atStart => exact ⟨0, Nat.zero_le _, rfl, by simp, Below.refl _ _⟩
    case round =>
      obtain ⟨k, hk, rfl, htk, hb⟩ := hrel
      have HT := hid htk
      clear htk
      have hsz := hb.size
      by_cases hlt : k < l.length
      · have hlt2 : k < m.length := by rw [← HM.out]; exact hlt
        obtain ⟨b1, o1, rfl, hb1, hz1⟩ := h1.at (by simp; omega)
        obtain ⟨b2, o2, rfl, hb2, hz2⟩ := h2.at (by simp; omega)
        clear hz1 hz2
        have c1 := (hb.cell (p := ⟨b1, o1 + k, none⟩) hb1).trans (h1.cell k (by simpa using hlt))
        have c2 := (hb.cell (p := ⟨b2, o2 + k, none⟩) hb2).trans (h2.cell k (by simpa using hlt2))
        simp only [i64s, List.getElem_map] at c1 c2
        have HA : Hid (l.take (k + 1) = l.take k ++ [l[k]]) := take_succ l k hlt
        have HB : Hid (m.take (k + 1) = m.take k ++ [m[k]]) := take_succ m k hlt2
        have HN : Hid (l[k] ≠ m[k] → decide (l = m) = false) := fun h => by
          rw [decide_eq_false_iff_not]
          intro e
          subst e
          exact h rfl
        obtain ⟨x, hx⟩ : ∃ x, x = l[k] := ⟨_, rfl⟩
        obtain ⟨y, hy⟩ : ∃ y, y = m[k] := ⟨_, rfl⟩
        rw [← hx] at c1 HA HN
        rw [← hy] at c2 HB HN
        clear hx hy hlt2
        by_cases hxy : x = y
        · subst hxy
          have hxx : (x != x) = false := by simp
          go_wp2
          go_region
          go_wp2
          go_roundw
          case rel => exact ⟨k + 1, by omega, by go_num, by rw [HA.out, HB.out, HT.out], hb.drew⟩
          case measure => simp [intOf]; omega
        · have hxx : (x != y) = true := by simpa using hxy
          have HN := hid (HN.out hxy)
          clear hxy
          go_wp2
          go_region
          go_wp2
          go_ret
          exact ⟨ret_bool (by rw [HN.out]), hb.drew⟩
      · have hkx : k = l.length := by omega
        have HE : Hid (decide (l = m) = true) := by
          have h := HT.out
          rw [hkx, List.take_length, HM.out, List.take_length] at h
          simpa [Hid] using h
        clear HT
        subst hkx
        go_wp2
        go_ret
        exact ⟨ret_bool (by rw [HE.out]), hb⟩
  · have HE : Hid (decide (l = m) = false) := by
      simp only [Hid, decide_eq_false_iff_not]
      intro e
      exact hlm (by rw [e])
    have hne : (((l.length : Nat) : Int) != (m.length : Int)) = true := by rw [bne_iff_ne]; omega
    clear hlm
    go_enter Try.func67, Try.ntmps67
    go_wp2
    go_ret
    exact ⟨ret_bool (by rw [HE.out]), Below.refl _ _⟩
end Go.Proofs.Ythmockfeffikjaa
namespace Go.Proofs.Ythmockfeffikjaa
open Go.RowKit

set_option maxHeartbeats 2000000 in
theorem same_any (x y : Ce) (p q : Option Addr) (c d : Nat) (w : World) (hx : SlAt w p c x.came) (hy : SlAt w q d y.came) :
    Calls Try.prog 56 #[x.val p c, y.val q d] w fun e w' => e = .returned (.bool (decide (x = y))) ∧ Below w.heap.size w w' := by
  obtain ⟨kind, n, owner, need, came, turns, there⟩ := x
  obtain ⟨kind', n', owner', need', came', turns', there'⟩ := y
  unfold Ce.val
  dsimp only at hx hy ⊢
  obtain ⟨hl1, hm1, hp1, hr1⟩ := hx
  obtain ⟨hl2, hm2, hp2, hr2⟩ := hy
  unfold maxLen at hm1 hm2
  clear hp1 hp2
  by_cases h_kind : kind = kind'
  rotate_left
  · have HF : Hid (decide (Ce.mk kind n owner need came turns there = Ce.mk kind' n' owner' need' came' turns' there') = false) := by simp [Hid, h_kind]
    have e_kind : (kind == kind') = false := by simp [h_kind]
    clear h_kind
    go_enter Try.func56, Try.ntmps56
    go_wp2
    go_ret
    exact ⟨ret_bool (by rw [HF.out]), ((Below.refl _ _).alloc (Nat.le_refl _) _).alloc (by simp) _⟩
  by_cases h_n : n = n'
  rotate_left
  · have HF : Hid (decide (Ce.mk kind n owner need came turns there = Ce.mk kind' n' owner' need' came' turns' there') = false) := by simp [Hid, h_n]
    have e_kind : (kind == kind') = true := by simp [h_kind]
    have e_n : (n == n') = false := by simp [h_n]
    clear h_kind h_n
    go_enter Try.func56, Try.ntmps56
    go_wp2
    go_ret
    exact ⟨ret_bool (by rw [HF.out]), ((Below.refl _ _).alloc (Nat.le_refl _) _).alloc (by simp) _⟩
  by_cases h_owner : owner = owner'
  rotate_left
  · have HF : Hid (decide (Ce.mk kind n owner need came turns there = Ce.mk kind' n' owner' need' came' turns' there') = false) := by simp [Hid, h_owner]
    have e_kind : (kind == kind') = true := by simp [h_kind]
    have e_n : (n == n') = true := by simp [h_n]
    have e_owner : (owner == owner') = false := by simp [h_owner]
    clear h_kind h_n h_owner
    go_enter Try.func56, Try.ntmps56
    go_wp2
    go_ret
    exact ⟨ret_bool (by rw [HF.out]), ((Below.refl _ _).alloc (Nat.le_refl _) _).alloc (by simp) _⟩
  by_cases h_need : need = need'
  rotate_left
  · have HF : Hid (decide (Ce.mk kind n owner need came turns there = Ce.mk kind' n' owner' need' came' turns' there') = false) := by simp [Hid, h_need]
    have e_kind : (kind == kind') = true := by simp [h_kind]
    have e_n : (n == n') = true := by simp [h_n]
    have e_owner : (owner == owner') = true := by simp [h_owner]
    have e_need : (need == need') = false := by simp [h_need]
    clear h_kind h_n h_owner h_need
    go_enter Try.func56, Try.ntmps56
    go_wp2
    go_ret
    exact ⟨ret_bool (by rw [HF.out]), ((Below.refl _ _).alloc (Nat.le_refl _) _).alloc (by simp) _⟩
  by_cases h_turns : turns = turns'
  rotate_left
  · have HF : Hid (decide (Ce.mk kind n owner need came turns there = Ce.mk kind' n' owner' need' came' turns' there') = false) := by simp [Hid, h_turns]
    have e_kind : (kind == kind') = true := by simp [h_kind]
    have e_n : (n == n') = true := by simp [h_n]
    have e_owner : (owner == owner') = true := by simp [h_owner]
    have e_need : (need == need') = true := by simp [h_need]
    have e_turns : (turns == turns') = false := by simp [h_turns]
    clear h_kind h_n h_owner h_need h_turns
    go_enter Try.func56, Try.ntmps56
    go_wp2
    go_ret
    exact ⟨ret_bool (by rw [HF.out]), ((Below.refl _ _).alloc (Nat.le_refl _) _).alloc (by simp) _⟩
  by_cases h_there : there = there'
  rotate_left
  · have HF : Hid (decide (Ce.mk kind n owner need came turns there = Ce.mk kind' n' owner' need' came' turns' there') = false) := by simp [Hid, h_there]
    have e_kind : (kind == kind') = true := by simp [h_kind]
    have e_n : (n == n') = true := by simp [h_n]
    have e_owner : (owner == owner') = true := by simp [h_owner]
    have e_need : (need == need') = true := by simp [h_need]
    have e_turns : (turns == turns') = true := by simp [h_turns]
    have e_there : (there == there') = false := by simp [h_there]
    clear h_kind h_n h_owner h_need h_turns h_there
    go_enter Try.func56, Try.ntmps56
    go_wp2
    go_ret
    exact ⟨ret_bool (by rw [HF.out]), ((Below.refl _ _).alloc (Nat.le_refl _) _).alloc (by simp) _⟩
  have e_kind : (kind == kind') = true := by simp [h_kind]
  have e_n : (n == n') = true := by simp [h_n]
  have e_owner : (owner == owner') = true := by simp [h_owner]
  have e_need : (need == need') = true := by simp [h_need]
  have e_turns : (turns == turns') = true := by simp [h_turns]
  have e_there : (there == there') = true := by simp [h_there]
  have HF : Hid (decide (Ce.mk kind n owner need came turns there = Ce.mk kind' n' owner' need' came' turns' there') = decide (came = came')) := by
    rw [Hid, decide_eq_decide, Ce.mk.injEq]
    exact ⟨fun h => h.2.2.2.2.1, fun h => ⟨h_kind, h_n, h_owner, h_need, h, h_turns, h_there⟩⟩
  clear h_kind h_n h_owner h_need h_turns h_there
  have HEQ := hid (fun w1 (h1 : Row w1 p (i64s came)) (h2 : Row w1 q (i64s came')) => eqI_any p q c d came came' w1 h1 h2 (by unfold maxLen; omega) (by unfold maxLen; omega))
  go_enter Try.func56, Try.ntmps56
  go_wp2_with (go_at_call 67; refine (HEQ.out _ ((hr1.alloc _).alloc _) ((hr2.alloc _).alloc _)).mono ?_; rintro e w1 ⟨rfl, hb⟩)
  go_ret
  exact ⟨ret_bool (by rw [HF.out]), (((Below.refl _ _).alloc (Nat.le_refl _) _).alloc (by simp) _).trans (hb.mono (by simp; omega))⟩

theorem ce_blk3 {w w1 : World} {o1 : Obj} (x : Ce) (p : Option Addr) (c : Nat) (hb : Below ((w.alloc o1).alloc (.cells #[i64 x.kind, i64 x.n, i64 x.owner, i64 x.need, .slice p x.came.length c, i64 x.turns, .bool x.there] 30)).heap.size ((w.alloc o1).alloc (.cells #[i64 x.kind, i64 x.n, i64 x.owner, i64 x.need, .slice p x.came.length c, i64 x.turns, .bool x.there] 30)) w1) : CeFacts w1 (w.heap.size + 1) x p c :=
  CeBlk.facts (w := w1) (b := w.heap.size + 1) (x := x) (p := p) (c := c) ((hb.block _ (by simp)).trans (by have := heap_alloc_new (w.alloc o1) (.cells #[i64 x.kind, i64 x.n, i64 x.owner, i64 x.need, .slice p x.came.length c, i64 x.turns, .bool x.there] 30 (0, 0)); rw [World.size_alloc] at this; exact this))

set_option maxHeartbeats 2000000 in
theorem rsame_any (x y : Ce) (p q : Option Addr) (c d : Nat) (w : World) (hx : SlAt w p c x.came) (hy : SlAt w q d y.came) :
    Calls Try.prog 41 #[x.val p c, y.val q d] w fun e w' => e = .returned (.bool (decide (x = y))) ∧ Below w.heap.size w w' := by
  obtain ⟨kind, n, owner, need, came, turns, there⟩ := x
  obtain ⟨kind', n', owner', need', came', turns', there'⟩ := y
  unfold Ce.val
  dsimp only at hx hy ⊢
  obtain ⟨hl1, hm1, hp1, hr1⟩ := hx
  obtain ⟨hl2, hm2, hp2, hr2⟩ := hy
  unfold maxLen at hm1 hm2
  clear hp1 hp2
  by_cases h_kind : kind = kind'
  rotate_left
  · have HF : Hid (decide (Ce.mk kind n owner need came turns there = Ce.mk kind' n' owner' need' came' turns' there') = false) := by simp [Hid, h_kind]
    have e_kind : (kind != kind') = true := by simp [h_kind]
    clear h_kind
    go_enter Try.func41, Try.ntmps41
    go_wp2
    go_ret
    exact ⟨ret_bool (by rw [HF.out]), ((Below.refl _ _).alloc (Nat.le_refl _) _).alloc (by simp) _⟩
  by_cases h_n : n = n'
  rotate_left
  · have HF : Hid (decide (Ce.mk kind n owner need came turns there = Ce.mk kind' n' owner' need' came' turns' there') = false) := by simp [Hid, h_n]
    have e_kind : (kind != kind') = false := by simp [h_kind]
    have e_n : (n != n') = true := by simp [h_n]
    clear h_kind h_n
    go_enter Try.func41, Try.ntmps41
    go_wp2
    go_ret
    exact ⟨ret_bool (by rw [HF.out]), ((Below.refl _ _).alloc (Nat.le_refl _) _).alloc (by simp) _⟩
  by_cases h_owner : owner = owner'
  rotate_left
  · have HF : Hid (decide (Ce.mk kind n owner need came turns there = Ce.mk kind' n' owner' need' came' turns' there') = false) := by simp [Hid, h_owner]
    have e_kind : (kind != kind') = false := by simp [h_kind]
    have e_n : (n != n') = false := by simp [h_n]
    have e_owner : (owner != owner') = true := by simp [h_owner]
    clear h_kind h_n h_owner
    go_enter Try.func41, Try.ntmps41
    go_wp2
    go_ret
    exact ⟨ret_bool (by rw [HF.out]), ((Below.refl _ _).alloc (Nat.le_refl _) _).alloc (by simp) _⟩
  by_cases h_need : need = need'
  rotate_left
  · have HF : Hid (decide (Ce.mk kind n owner need came turns there = Ce.mk kind' n' owner' need' came' turns' there') = false) := by simp [Hid, h_need]
    have e_kind : (kind != kind') = false := by simp [h_kind]
    have e_n : (n != n') = false := by simp [h_n]
    have e_owner : (owner != owner') = false := by simp [h_owner]
    have e_need : (need != need') = true := by simp [h_need]
    clear h_kind h_n h_owner h_need
    go_enter Try.func41, Try.ntmps41
    go_wp2
    go_ret
    exact ⟨ret_bool (by rw [HF.out]), ((Below.refl _ _).alloc (Nat.le_refl _) _).alloc (by simp) _⟩
  by_cases h_turns : turns = turns'
  rotate_left
  · have HF : Hid (decide (Ce.mk kind n owner need came turns there = Ce.mk kind' n' owner' need' came' turns' there') = false) := by simp [Hid, h_turns]
    have e_kind : (kind != kind') = false := by simp [h_kind]
    have e_n : (n != n') = false := by simp [h_n]
    have e_owner : (owner != owner') = false := by simp [h_owner]
    have e_need : (need != need') = false := by simp [h_need]
    have e_turns : (turns != turns') = true := by simp [h_turns]
    clear h_kind h_n h_owner h_need h_turns
    go_enter Try.func41, Try.ntmps41
    go_wp2
    go_ret
    exact ⟨ret_bool (by rw [HF.out]), ((Below.refl _ _).alloc (Nat.le_refl _) _).alloc (by simp) _⟩
  by_cases h_there : there = there'
  rotate_left
  · have HF : Hid (decide (Ce.mk kind n owner need came turns there = Ce.mk kind' n' owner' need' came' turns' there') = false) := by simp [Hid, h_there]
    have e_kind : (kind != kind') = false := by simp [h_kind]
    have e_n : (n != n') = false := by simp [h_n]
    have e_owner : (owner != owner') = false := by simp [h_owner]
    have e_need : (need != need') = false := by simp [h_need]
    have e_turns : (turns != turns') = false := by simp [h_turns]
    have e_there : (there != there') = true := by simp [h_there]
    clear h_kind h_n h_owner h_need h_turns
    go_enter Try.func41, Try.ntmps41
    go_wp2
    go_ret
    exact ⟨ret_bool (by rw [HF.out]), ((Below.refl _ _).alloc (Nat.le_refl _) _).alloc (by simp) _⟩
  subst h_there
  have e_kind : (kind != kind') = false := by simp [h_kind]
  have e_n : (n != n') = false := by simp [h_n]
  have e_owner : (owner != owner') = false := by simp [h_owner]
  have e_need : (need != need') = false := by simp [h_need]
  have e_turns : (turns != turns') = false := by simp [h_turns]
  have HF : Hid (decide (Ce.mk kind n owner need came turns there = Ce.mk kind' n' owner' need' came' turns' there) = decide (came = came')) := by
    rw [Hid, decide_eq_decide, Ce.mk.injEq]
    exact ⟨fun h => h.2.2.2.2.1, fun h => ⟨h_kind, h_n, h_owner, h_need, h, h_turns, rfl⟩⟩
  clear h_kind h_n h_owner h_need h_turns
  by_cases hlen : came.length = came'.length
  rotate_left
  · have HN : Hid (decide (came = came') = false) := by rw [Hid, decide_eq_false_iff_not]; intro e; exact hlen (by rw [e])
    have hne : ((came.length : Int) != (came'.length : Int)) = true := by rw [bne_iff_ne]; omega
    clear hlen
    go_enter Try.func41, Try.ntmps41
    go_wp2
    go_ret
    exact ⟨ret_bool (by rw [HF.out, HN.out]), ((Below.refl _ _).alloc (Nat.le_refl _) _).alloc (by simp) _⟩
  have HL := hid hlen
  rw [← hlen]
  have hne : ((came.length : Int) != (came.length : Int)) = false := by simp
  clear hlen
  go_enter Try.func41, Try.ntmps41
  go_wp2
  go_loopw [5] (fun i wr => ∃ k : Nat, k ≤ came.length ∧ i = .int .i64 k ∧ came.take k = came'.take k ∧ Below (w.heap.size + 1 + 1) ((w.alloc (.cells #[i64 kind, i64 n, i64 owner, i64 need, .slice p came.length c, i64 turns, .bool there] 30)).alloc (.cells #[i64 kind', i64 n', i64 owner', i64 need', .slice q came'.length d, i64 turns', .bool there] 30)) wr) (fun i _ => came.length - (intOf i).toNat)
  case atStart => exact ⟨0, Nat.zero_le _, rfl, by simp, by rw [HL.out]; exact Below.refl _ _⟩
  case round =>
    obtain ⟨k, hk, rfl, htk, hb⟩ := hrel
    have HT := hid htk
    clear htk
    obtain ⟨⟨k0, k1, k2, k3, k4, k5, k6⟩, kf, kl⟩ := ce_blk1 (o2 := (.cells #[i64 kind', i64 n', i64 owner', i64 need', .slice q came'.length d, i64 turns', .bool there] 30)) ⟨kind, n, owner, need, came, turns, there⟩ p c (by simp only [World.size_alloc]; exact hb)
    obtain ⟨⟨j0, j1, j2, j3, j4, j5, j6⟩, jf, jl⟩ := ce_blk3 (o1 := (.cells #[i64 kind, i64 n, i64 owner, i64 need, .slice p came.length c, i64 turns, .bool there] 30)) ⟨kind', n', owner', need', came', turns', there⟩ q d (by simp only [World.size_alloc]; exact hb)
    clear k0 k1 k2 k3 k5 k6 kf j0 j1 j2 j3 j5 j6 jf
    dsimp only at k4 j4
    rw [← HL.out] at j4
    have hbw : Below w.heap.size w wr := (((Below.refl _ _).alloc (Nat.le_refl _) _).alloc (by simp) _).trans (hb.mono (by omega))
    by_cases hlt : k < came.length
    · have hlt2 : k < came'.length := by rw [← HL.out]; exact hlt
      obtain ⟨b1, o1, rfl, hb1, hz1⟩ := hr1.at (by simp; omega)
      obtain ⟨b2, o2, rfl, hb2, hz2⟩ := hr2.at (by simp; omega)
      clear hz1 hz2
      have c1 := (hr1.below hbw).cell k (by simpa using hlt)
      have c2 := (hr2.below hbw).cell k (by simpa using hlt2)
      simp only [i64s, List.getElem_map] at c1 c2
      have HA : Hid (came.take (k + 1) = came.take k ++ [came[k]]) := take_succ came k hlt
      have HB : Hid (came'.take (k + 1) = came'.take k ++ [came'[k]]) := take_succ came' k hlt2
      have HN : Hid (came[k] ≠ came'[k] → decide (came = came') = false) := fun h => by
        rw [decide_eq_false_iff_not]
        intro e
        subst e
        exact h rfl
      obtain ⟨u, hu⟩ : ∃ u, u = came[k] := ⟨_, rfl⟩
      obtain ⟨v, hv⟩ : ∃ v, v = came'[k] := ⟨_, rfl⟩
      rw [← hu] at c1 HA HN
      rw [← hv] at c2 HB HN
      clear hu hv hlt2
      by_cases huv : u = v
      · subst huv
        have hxx : (u != u) = false := by simp
        go_wp2
        go_region
        go_wp2
        go_roundw
        case rel => exact ⟨k + 1, by omega, by go_num, by rw [HA.out, HB.out, HT.out], hb.drew⟩
        case measure => simp [intOf]; omega
      · have hxx : (u != v) = true := by simpa using huv
        have HN := hid (HN.out huv)
        clear huv
        go_wp2
        go_region
        go_wp2
        go_ret
        exact ⟨ret_bool (by rw [HF.out, HN.out]), hbw.drew⟩
    · have hkx : k = came.length := by omega
      have HE : Hid (decide (came = came') = true) := by
        have h := HT.out
        rw [hkx, List.take_length, HL.out, List.take_length] at h
        simpa [Hid] using h
      clear HT
      subst hkx
      go_wp2
      go_ret
      exact ⟨ret_bool (by rw [HF.out, HE.out]), hbw⟩
end Go.Proofs.Ythmockfeffikjaa
