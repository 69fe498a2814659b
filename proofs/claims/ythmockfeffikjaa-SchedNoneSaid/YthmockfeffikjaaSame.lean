/-
  The walks of Same, the program's and the document's.
-/
import Derived.Test.YthmockfeffikjaaRGate
import Derived.Test.YthmockfeffikjaaCopy
import Derived.Test.YthmockfeffikjaaSlEqI
namespace Go.Proofs.Ythmockfeffikjaa
open Go.RowKit

set_option maxHeartbeats 2000000 in
theorem same_any (x y : Ce) (p q : Option Addr) (c d : Nat) (w : World) (hx : SlAt w p c x.came) (hy : SlAt w q d y.came) :
    Calls Try.prog 56 #[x.val p c, y.val q d] w fun e w' => e = .returned (.bool (decide (x = y))) ∧ Below w.heap.size w w' := by
  obtain ⟨kind, n, owner, need, came, turns, there⟩ := x
  obtain ⟨kind', n', owner', need', came', turns', there'⟩ := y
  unfold Ce.val
  dsimp only at hx hy ⊢
  obtain ⟨hl1, hm1, hp1, hr1⟩ := hx
  obtain ⟨hl2, hm2, hp2, hr2⟩ := hy
  unfold maxLen at hm1 hm2
  clear hp1 hp2
  by_cases h_kind : kind = kind'
  rotate_left
  · have HF : Hid (decide (Ce.mk kind n owner need came turns there = Ce.mk kind' n' owner' need' came' turns' there') = false) := by simp [Hid, h_kind]
    have e_kind : (kind == kind') = false := by simp [h_kind]
    clear h_kind
    go_enter Try.func56, Try.ntmps56
    go_wp2
    go_ret
    exact ⟨ret_bool (by rw [HF.out]), ((Below.refl _ _).alloc (Nat.le_refl _) _).alloc (by simp) _⟩
  by_cases h_n : n = n'
  rotate_left
  · have HF : Hid (decide (Ce.mk kind n owner need came turns there = Ce.mk kind' n' owner' need' came' turns' there') = false) := by simp [Hid, h_n]
    have e_kind : (kind == kind') = true := by simp [h_kind]
    have e_n : (n == n') = false := by simp [h_n]
    clear h_kind h_n
    go_enter Try.func56, Try.ntmps56
    go_wp2
    go_ret
    exact ⟨ret_bool (by rw [HF.out]), ((Below.refl _ _).alloc (Nat.le_refl _) _).alloc (by simp) _⟩
  by_cases h_owner : owner = owner'
  rotate_left
  · have HF : Hid (decide (Ce.mk kind n owner need came turns there = Ce.mk kind' n' owner' need' came' turns' there') = false) := by simp [Hid, h_owner]
    have e_kind : (kind == kind') = true := by simp [h_kind]
    have e_n : (n == n') = true := by simp [h_n]
    have e_owner : (owner == owner') = false := by simp [h_owner]
    clear h_kind h_n h_owner
    go_enter Try.func56, Try.ntmps56
    go_wp2
    go_ret
    exact ⟨ret_bool (by rw [HF.out]), ((Below.refl _ _).alloc (Nat.le_refl _) _).alloc (by simp) _⟩
  by_cases h_need : need = need'
  rotate_left
  · have HF : Hid (decide (Ce.mk kind n owner need came turns there = Ce.mk kind' n' owner' need' came' turns' there') = false) := by simp [Hid, h_need]
    have e_kind : (kind == kind') = true := by simp [h_kind]
    have e_n : (n == n') = true := by simp [h_n]
    have e_owner : (owner == owner') = true := by simp [h_owner]
    have e_need : (need == need') = false := by simp [h_need]
    clear h_kind h_n h_owner h_need
    go_enter Try.func56, Try.ntmps56
    go_wp2
    go_ret
    exact ⟨ret_bool (by rw [HF.out]), ((Below.refl _ _).alloc (Nat.le_refl _) _).alloc (by simp) _⟩
  by_cases h_turns : turns = turns'
  rotate_left
  · have HF : Hid (decide (Ce.mk kind n owner need came turns there = Ce.mk kind' n' owner' need' came' turns' there') = false) := by simp [Hid, h_turns]
    have e_kind : (kind == kind') = true := by simp [h_kind]
    have e_n : (n == n') = true := by simp [h_n]
    have e_owner : (owner == owner') = true := by simp [h_owner]
    have e_need : (need == need') = true := by simp [h_need]
    have e_turns : (turns == turns') = false := by simp [h_turns]
    clear h_kind h_n h_owner h_need h_turns
    go_enter Try.func56, Try.ntmps56
    go_wp2
    go_ret
    exact ⟨ret_bool (by rw [HF.out]), ((Below.refl _ _).alloc (Nat.le_refl _) _).alloc (by simp) _⟩
  by_cases h_there : there = there'
  rotate_left
  · have HF : Hid (decide (Ce.mk kind n owner need came turns there = Ce.mk kind' n' owner' need' came' turns' there') = false) := by simp [Hid, h_there]
    have e_kind : (kind == kind') = true := by simp [h_kind]
    have e_n : (n == n') = true := by simp [h_n]
    have e_owner : (owner == owner') = true := by simp [h_owner]
    have e_need : (need == need') = true := by simp [h_need]
    have e_turns : (turns == turns') = true := by simp [h_turns]
    have e_there : (there == there') = false := by simp [h_there]
    clear h_kind h_n h_owner h_need h_turns h_there
    go_enter Try.func56, Try.ntmps56
    go_wp2
    go_ret
    exact ⟨ret_bool (by rw [HF.out]), ((Below.refl _ _).alloc (Nat.le_refl _) _).alloc (by simp) _⟩
  have e_kind : (kind == kind') = true := by simp [h_kind]
  have e_n : (n == n') = true := by simp [h_n]
  have e_owner : (owner == owner') = true := by simp [h_owner]
  have e_need : (need == need') = true := by simp [h_need]
  have e_turns : (turns == turns') = true := by simp [h_turns]
  have e_there : (there == there') = true := by simp [h_there]
  have HF : Hid (decide (Ce.mk kind n owner need came turns there = Ce.mk kind' n' owner' need' came' turns' there') = decide (came = came')) := by
    rw [Hid, decide_eq_decide, Ce.mk.injEq]
    exact ⟨fun h => h.2.2.2.2.1, fun h => ⟨h_kind, h_n, h_owner, h_need, h, h_turns, h_there⟩⟩
  clear h_kind h_n h_owner h_need h_turns h_there
  have HEQ := hid (fun w1 (h1 : Row w1 p (i64s came)) (h2 : Row w1 q (i64s came')) => eqI_any p q c d came came' w1 h1 h2 (by unfold maxLen; omega) (by unfold maxLen; omega))
  go_enter Try.func56, Try.ntmps56
  go_wp2_with (go_at_call 67; refine (HEQ.out _ ((hr1.alloc _).alloc _) ((hr2.alloc _).alloc _)).mono ?_; rintro e w1 ⟨rfl, hb⟩)
  go_ret
  exact ⟨ret_bool (by rw [HF.out]), (((Below.refl _ _).alloc (Nat.le_refl _) _).alloc (by simp) _).trans (hb.mono (by simp; omega))⟩

theorem ce_blk3 {w w1 : World} {o1 : Obj} (x : Ce) (p : Option Addr) (c : Nat) (hb : Below ((w.alloc o1).alloc (.cells #[i64 x.kind, i64 x.n, i64 x.owner, i64 x.need, .slice p x.came.length c, i64 x.turns, .bool x.there] 30)).heap.size ((w.alloc o1).alloc (.cells #[i64 x.kind, i64 x.n, i64 x.owner, i64 x.need, .slice p x.came.length c, i64 x.turns, .bool x.there] 30)) w1) : CeFacts w1 (w.heap.size + 1) x p c :=
  CeBlk.facts (w := w1) (b := w.heap.size + 1) (x := x) (p := p) (c := c) ((hb.block _ (by simp)).trans (by have := heap_alloc_new (w.alloc o1) (.cells #[i64 x.kind, i64 x.n, i64 x.owner, i64 x.need, .slice p x.came.length c, i64 x.turns, .bool x.there] 30 (0, 0)); rw [World.size_alloc] at this; exact this))

set_option maxHeartbeats 2000000 in
theorem rsame_any (x y : Ce) (p q : Option Addr) (c d : Nat) (w : World) (hx : SlAt w p c x.came) (hy : SlAt w q d y.came) :
    Calls Try.prog 41 #[x.val p c, y.val q d] w fun e w' => e = .returned (.bool (decide (x = y))) ∧ Below w.heap.size w w' := by
  obtain ⟨kind, n, owner, need, came, turns, there⟩ := x
  obtain ⟨kind', n', owner', need', came', turns', there'⟩ := y
  unfold Ce.val
  dsimp only at hx hy ⊢
  obtain ⟨hl1, hm1, hp1, hr1⟩ := hx
  obtain ⟨hl2, hm2, hp2, hr2⟩ := hy
  unfold maxLen at hm1 hm2
  clear hp1 hp2
  by_cases h_kind : kind = kind'
  rotate_left
  · have HF : Hid (decide (Ce.mk kind n owner need came turns there = Ce.mk kind' n' owner' need' came' turns' there') = false) := by simp [Hid, h_kind]
    have e_kind : (kind != kind') = true := by simp [h_kind]
    clear h_kind
    go_enter Try.func41, Try.ntmps41
    go_wp2
    go_ret
    exact ⟨ret_bool (by rw [HF.out]), ((Below.refl _ _).alloc (Nat.le_refl _) _).alloc (by simp) _⟩
  by_cases h_n : n = n'
  rotate_left
  · have HF : Hid (decide (Ce.mk kind n owner need came turns there = Ce.mk kind' n' owner' need' came' turns' there') = false) := by simp [Hid, h_n]
    have e_kind : (kind != kind') = false := by simp [h_kind]
    have e_n : (n != n') = true := by simp [h_n]
    clear h_kind h_n
    go_enter Try.func41, Try.ntmps41
    go_wp2
    go_ret
    exact ⟨ret_bool (by rw [HF.out]), ((Below.refl _ _).alloc (Nat.le_refl _) _).alloc (by simp) _⟩
  by_cases h_owner : owner = owner'
  rotate_left
  · have HF : Hid (decide (Ce.mk kind n owner need came turns there = Ce.mk kind' n' owner' need' came' turns' there') = false) := by simp [Hid, h_owner]
    have e_kind : (kind != kind') = false := by simp [h_kind]
    have e_n : (n != n') = false := by simp [h_n]
    have e_owner : (owner != owner') = true := by simp [h_owner]
    clear h_kind h_n h_owner
    go_enter Try.func41, Try.ntmps41
    go_wp2
    go_ret
    exact ⟨ret_bool (by rw [HF.out]), ((Below.refl _ _).alloc (Nat.le_refl _) _).alloc (by simp) _⟩
  by_cases h_need : need = need'
  rotate_left
  · have HF : Hid (decide (Ce.mk kind n owner need came turns there = Ce.mk kind' n' owner' need' came' turns' there') = false) := by simp [Hid, h_need]
    have e_kind : (kind != kind') = false := by simp [h_kind]
    have e_n : (n != n') = false := by simp [h_n]
    have e_owner : (owner != owner') = false := by simp [h_owner]
    have e_need : (need != need') = true := by simp [h_need]
    clear h_kind h_n h_owner h_need
    go_enter Try.func41, Try.ntmps41
    go_wp2
    go_ret
    exact ⟨ret_bool (by rw [HF.out]), ((Below.refl _ _).alloc (Nat.le_refl _) _).alloc (by simp) _⟩
  by_cases h_turns : turns = turns'
  rotate_left
  · have HF : Hid (decide (Ce.mk kind n owner need came turns there = Ce.mk kind' n' owner' need' came' turns' there') = false) := by simp [Hid, h_turns]
    have e_kind : (kind != kind') = false := by simp [h_kind]
    have e_n : (n != n') = false := by simp [h_n]
    have e_owner : (owner != owner') = false := by simp [h_owner]
    have e_need : (need != need') = false := by simp [h_need]
    have e_turns : (turns != turns') = true := by simp [h_turns]
    clear h_kind h_n h_owner h_need h_turns
    go_enter Try.func41, Try.ntmps41
    go_wp2
    go_ret
    exact ⟨ret_bool (by rw [HF.out]), ((Below.refl _ _).alloc (Nat.le_refl _) _).alloc (by simp) _⟩
  by_cases h_there : there = there'
  rotate_left
  · have HF : Hid (decide (Ce.mk kind n owner need came turns there = Ce.mk kind' n' owner' need' came' turns' there') = false) := by simp [Hid, h_there]
    have e_kind : (kind != kind') = false := by simp [h_kind]
    have e_n : (n != n') = false := by simp [h_n]
    have e_owner : (owner != owner') = false := by simp [h_owner]
    have e_need : (need != need') = false := by simp [h_need]
    have e_turns : (turns != turns') = false := by simp [h_turns]
    have e_there : (there != there') = true := by simp [h_there]
    clear h_kind h_n h_owner h_need h_turns
    go_enter Try.func41, Try.ntmps41
    go_wp2
    go_ret
    exact ⟨ret_bool (by rw [HF.out]), ((Below.refl _ _).alloc (Nat.le_refl _) _).alloc (by simp) _⟩
  subst h_there
  have e_kind : (kind != kind') = false := by simp [h_kind]
  have e_n : (n != n') = false := by simp [h_n]
  have e_owner : (owner != owner') = false := by simp [h_owner]
  have e_need : (need != need') = false := by simp [h_need]
  have e_turns : (turns != turns') = false := by simp [h_turns]
  have HF : Hid (decide (Ce.mk kind n owner need came turns there = Ce.mk kind' n' owner' need' came' turns' there) = decide (came = came')) := by
    rw [Hid, decide_eq_decide, Ce.mk.injEq]
    exact ⟨fun h => h.2.2.2.2.1, fun h => ⟨h_kind, h_n, h_owner, h_need, h, h_turns, rfl⟩⟩
  clear h_kind h_n h_owner h_need h_turns
  by_cases hlen : came.length = came'.length
  rotate_left
  · have HN : Hid (decide (came = came') = false) := by rw [Hid, decide_eq_false_iff_not]; intro e; exact hlen (by rw [e])
    have hne : ((came.length : Int) != (came'.length : Int)) = true := by rw [bne_iff_ne]; omega
    clear hlen
    go_enter Try.func41, Try.ntmps41
    go_wp2
    go_ret
    exact ⟨ret_bool (by rw [HF.out, HN.out]), ((Below.refl _ _).alloc (Nat.le_refl _) _).alloc (by simp) _⟩
  have HL := hid hlen
  rw [← hlen]
  have hne : ((came.length : Int) != (came.length : Int)) = false := by simp
  clear hlen
  go_enter Try.func41, Try.ntmps41
  go_wp2
  go_loopw [5] (fun i wr => ∃ k : Nat, k ≤ came.length ∧ i = .int .i64 k ∧ came.take k = came'.take k ∧ Below (w.heap.size + 1 + 1) ((w.alloc (.cells #[i64 kind, i64 n, i64 owner, i64 need, .slice p came.length c, i64 turns, .bool there] 30)).alloc (.cells #[i64 kind', i64 n', i64 owner', i64 need', .slice q came'.length d, i64 turns', .bool there] 30)) wr) (fun i _ => came.length - (intOf i).toNat)
  case atStart => exact ⟨0, Nat.zero_le _, rfl, by simp, by rw [HL.out]; exact Below.refl _ _⟩
  case round =>
    obtain ⟨k, hk, rfl, htk, hb⟩ := hrel
    have HT := hid htk
    clear htk
    obtain ⟨⟨k0, k1, k2, k3, k4, k5, k6⟩, kf, kl⟩ := ce_blk1 (o2 := (.cells #[i64 kind', i64 n', i64 owner', i64 need', .slice q came'.length d, i64 turns', .bool there] 30)) ⟨kind, n, owner, need, came, turns, there⟩ p c (by simp only [World.size_alloc]; exact hb)
    obtain ⟨⟨j0, j1, j2, j3, j4, j5, j6⟩, jf, jl⟩ := ce_blk3 (o1 := (.cells #[i64 kind, i64 n, i64 owner, i64 need, .slice p came.length c, i64 turns, .bool there] 30)) ⟨kind', n', owner', need', came', turns', there⟩ q d (by simp only [World.size_alloc]; exact hb)
    clear k0 k1 k2 k3 k5 k6 kf j0 j1 j2 j3 j5 j6 jf
    dsimp only at k4 j4
    rw [← HL.out] at j4
    have hbw : Below w.heap.size w wr := (((Below.refl _ _).alloc (Nat.le_refl _) _).alloc (by simp) _).trans (hb.mono (by omega))
    by_cases hlt : k < came.length
    · have hlt2 : k < came'.length := by rw [← HL.out]; exact hlt
      obtain ⟨b1, o1, rfl, hb1, hz1⟩ := hr1.at (by simp; omega)
      obtain ⟨b2, o2, rfl, hb2, hz2⟩ := hr2.at (by simp; omega)
      clear hz1 hz2
      have c1 := (hr1.below hbw).cell k (by simpa using hlt)
      have c2 := (hr2.below hbw).cell k (by simpa using hlt2)
      simp only [i64s, List.getElem_map] at c1 c2
      have HA : Hid (came.take (k + 1) = came.take k ++ [came[k]]) := take_succ came k hlt
      have HB : Hid (came'.take (k + 1) = came'.take k ++ [came'[k]]) := take_succ came' k hlt2
      have HN : Hid (came[k] ≠ came'[k] → decide (came = came') = false) := fun h => by
        rw [decide_eq_false_iff_not]
        intro e
        subst e
        exact h rfl
      obtain ⟨u, hu⟩ : ∃ u, u = came[k] := ⟨_, rfl⟩
      obtain ⟨v, hv⟩ : ∃ v, v = came'[k] := ⟨_, rfl⟩
      rw [← hu] at c1 HA HN
      rw [← hv] at c2 HB HN
      clear hu hv hlt2
      by_cases huv : u = v
      · subst huv
        have hxx : (u != u) = false := by simp
        go_wp2
        go_region
        go_wp2
        go_roundw
        case rel => exact ⟨k + 1, by omega, by go_num, by rw [HA.out, HB.out, HT.out], hb.drew⟩
        case measure => simp [intOf]; omega
      · have hxx : (u != v) = true := by simpa using huv
        have HN := hid (HN.out huv)
        clear huv
        go_wp2
        go_region
        go_wp2
        go_ret
        exact ⟨ret_bool (by rw [HF.out, HN.out]), hbw.drew⟩
    · have hkx : k = came.length := by omega
      have HE : Hid (decide (came = came') = true) := by
        have h := HT.out
        rw [hkx, List.take_length, HL.out, List.take_length] at h
        simpa [Hid] using h
      clear HT
      subst hkx
      go_wp2
      go_ret
      exact ⟨ret_bool (by rw [HF.out, HE.out]), hbw⟩
end Go.Proofs.Ythmockfeffikjaa
