/-
  The walks of lock and future.
-/
import Derived.Test.YthmockfeffikjaaPtr
namespace Go.Proofs.Ythmockfeffikjaa
open Go.RowKit

set_option maxHeartbeats 2000000 in
theorem lock_any (x : Ce) (hx : x.kind = 2) (wk : Int) (a : Ac) (b : Nat) (p : Option Addr) (c : Nat) (w : World) (h : CeBlk w b x p c) (hs : SlAt w p c x.came) (hne : ∀ q, p = some q → q.block ≠ b) :
    Calls Try.prog 71 #[.pointer (some ⟨b, 0, none⟩), i64 wk, a.val] w (StepTell b p c (stepP x wk a) w) := by
  obtain ⟨kind, n, owner, need, came, turns, there⟩ := x
  obtain ⟨ak, ac, ao, an⟩ := a
  dsimp only at hx hs
  subst hx
  unfold Ac.val
  dsimp only
  have H := hid h
  obtain ⟨⟨k0, k1, k2, k3, k4, k5, k6⟩, kf, kl⟩ := h.facts
  clear h
  dsimp only at k0 k1 k2 k3 k4 k5 k6
  by_cases h3 : ak = 3
  · subst h3
    by_cases ho : owner = wk
    · have e1 : (owner == wk) = true := by simpa using ho
      have e1' : (owner != wk) = false := by simpa using ho
      have HP : Hid (stepP ⟨2, n, owner, need, came, turns, there⟩ wk ⟨3, ac, ao, an⟩ = (⟨2, n, owner, need, came, turns, there⟩, 0, 232)) := by simp [Hid, stepP, ho]
      clear ho
      go_enter Try.func71, Try.ntmps71
      go_wp2
      go_ret2
      rw [HP.out]
      exact ⟨rfl, ⟨H.out.alloc _, hs.alloc _⟩, grown_al _ _ _⟩
    · have e1 : (owner == wk) = false := by simpa using ho
      have e1' : (owner != wk) = true := by simpa using ho
      by_cases hn : owner = -1
      · have e2 : (owner != -1) = false := by simpa using hn
        have HP : Hid (stepP ⟨2, n, owner, need, came, turns, there⟩ wk ⟨3, ac, ao, an⟩ = (⟨2, n, wk, need, came, turns, there⟩, 0, 0)) := by simp only [Hid, stepP, if_neg ho, if_pos hn]; simp
        clear ho hn
        go_enter Try.func71, Try.ntmps71
        go_wp2
        go_ret2
        rw [HP.out]
        exact ⟨rfl, ⟨(H.out.setOwner wk).alloc _, (hs.set b 2 _ hne).alloc _⟩, gtr (grown_set w b 2 _) (grown_al _ _ _)⟩
      · have e2 : (owner != -1) = true := by simpa using hn
        have HP : Hid (stepP ⟨2, n, owner, need, came, turns, there⟩ wk ⟨3, ac, ao, an⟩ = (⟨2, n, owner, need, came, turns, there⟩, 0, 231)) := by simp [Hid, stepP, ho, hn]
        clear ho hn
        go_enter Try.func71, Try.ntmps71
        go_wp2
        go_ret2
        rw [HP.out]
        exact ⟨rfl, ⟨H.out.alloc _, hs.alloc _⟩, grown_al _ _ _⟩
  · by_cases h4 : ak = 4
    · subst h4
      clear h3
      by_cases ho : owner = wk
      · have e1 : (owner == wk) = true := by simpa using ho
        have e1' : (owner != wk) = false := by simpa using ho
        have HP : Hid (stepP ⟨2, n, owner, need, came, turns, there⟩ wk ⟨4, ac, ao, an⟩ = (⟨2, n, -1, need, came, turns, there⟩, 0, 0)) := by simp [Hid, stepP, ho]
        clear ho
        go_enter Try.func71, Try.ntmps71
        go_wp2
        go_ret2
        rw [HP.out]
        exact ⟨rfl, ⟨(H.out.setOwner (-1)).alloc _, (hs.set b 2 _ hne).alloc _⟩, gtr (grown_set w b 2 _) (grown_al _ _ _)⟩
      · have e1 : (owner == wk) = false := by simpa using ho
        have e1' : (owner != wk) = true := by simpa using ho
        have HP : Hid (stepP ⟨2, n, owner, need, came, turns, there⟩ wk ⟨4, ac, ao, an⟩ = (⟨2, n, owner, need, came, turns, there⟩, 0, 232)) := by simp [Hid, stepP, ho]
        clear ho
        go_enter Try.func71, Try.ntmps71
        go_wp2
        go_ret2
        rw [HP.out]
        exact ⟨rfl, ⟨H.out.alloc _, hs.alloc _⟩, grown_al _ _ _⟩
    · have e3 : (ak == 3) = false := by simpa using h3
      have e4 : (ak == 4) = false := by simpa using h4
      have HP : Hid (stepP ⟨2, n, owner, need, came, turns, there⟩ wk ⟨ak, ac, ao, an⟩ = (⟨2, n, owner, need, came, turns, there⟩, 0, 230)) := by simp [Hid, stepP, h3, h4]
      clear h3 h4
      go_enter Try.func71, Try.ntmps71
      go_wp2
      go_ret2
      rw [HP.out]
      exact ⟨rfl, ⟨H.out.alloc _, hs.alloc _⟩, grown_al _ _ _⟩

set_option maxHeartbeats 2000000 in
theorem future_any (x : Ce) (hx : x.kind = 4) (wk : Int) (a : Ac) (b : Nat) (p : Option Addr) (c : Nat) (w : World) (h : CeBlk w b x p c) (hs : SlAt w p c x.came) (hne : ∀ q, p = some q → q.block ≠ b) :
    Calls Try.prog 73 #[.pointer (some ⟨b, 0, none⟩), a.val] w (StepTell b p c (stepP x wk a) w) := by
  obtain ⟨kind, n, owner, need, came, turns, there⟩ := x
  obtain ⟨ak, ac, ao, an⟩ := a
  dsimp only at hx hs
  subst hx
  unfold Ac.val
  dsimp only
  have H := hid h
  obtain ⟨⟨k0, k1, k2, k3, k4, k5, k6⟩, kf, kl⟩ := h.facts
  clear h
  dsimp only at k0 k1 k2 k3 k4 k5 k6
  by_cases h7 : ak = 7
  · subst h7
    cases there with
    | true =>
      go_enter Try.func73, Try.ntmps73
      go_wp2
      go_ret2
      exact ⟨rfl, ⟨H.out.alloc _, hs.alloc _⟩, grown_al _ _ _⟩
    | false =>
      go_enter Try.func73, Try.ntmps73
      go_wp2
      go_region
      all_goals
        go_wp2
        go_ret2
        exact ⟨rfl, ⟨(((H.out.setThere true).setN an).alloc _).drew, (((hs.set b 6 _ hne).set b 1 _ hne).alloc _).drew⟩, gtr (gtr (gtr (grown_set w b 6 _) (grown_set _ b 1 _)) (grown_al _ _ _)) (grown_dr _ _)⟩
  · by_cases h8 : ak = 8
    · subst h8
      clear h7
      cases there with
      | true =>
        go_enter Try.func73, Try.ntmps73
        go_wp2
        go_ret2
        exact ⟨rfl, ⟨H.out.alloc _, hs.alloc _⟩, grown_al _ _ _⟩
      | false =>
        go_enter Try.func73, Try.ntmps73
        go_wp2
        go_ret2
        exact ⟨rfl, ⟨H.out.alloc _, hs.alloc _⟩, grown_al _ _ _⟩
    · have e3 : (ak == 7) = false := by simpa using h7
      have e4 : (ak == 8) = false := by simpa using h8
      have HP : Hid (stepP ⟨4, n, owner, need, came, turns, there⟩ wk ⟨ak, ac, ao, an⟩ = (⟨4, n, owner, need, came, turns, there⟩, 0, 230)) := by simp [Hid, stepP, h7, h8]
      clear h7 h8
      go_enter Try.func73, Try.ntmps73
      go_wp2
      go_ret2
      rw [HP.out]
      exact ⟨rfl, ⟨H.out.alloc _, hs.alloc _⟩, grown_al _ _ _⟩
end Go.Proofs.Ythmockfeffikjaa
