/-
  The walks of number, lock and future: an access to a cell in memory of its own.
  The walks of lock and future.
  The walk of barrier.
-/
import Derived.Test.YthmockfeffikjaaJE6
namespace Go.Proofs.Ythmockfeffikjaa
open Go.RowKit

theorem grown_set (w : World) (b o : Nat) (v : Value) : w.grownBy (w.setCell ⟨b, o, none⟩ v) (some b) :=
  ⟨rfl, rfl, rfl, by simp, fun i _ hi => Below.heap_setCell w _ v i (fun e => hi (by rw [e]))⟩
theorem CeBlk.alloc {w : World} {b : Nat} {x : Ce} {p : Option Addr} {c : Nat} (h : CeBlk w b x p c) (o : Obj) : CeBlk (w.alloc o) b x p c :=
  (Below.heap_alloc w o b (Array.getElem?_eq_some_iff.1 h).1).trans h
theorem CeBlk.drew {w : World} {b : Nat} {x : Ce} {p : Option Addr} {c : Nat} (h : CeBlk w b x p c) : CeBlk w.drew b x p c := h
theorem CeBlk.below {w w' : World} {b : Nat} {x : Ce} {p : Option Addr} {c : Nat} (h : CeBlk w b x p c) (hb : Below w.heap.size w w') : CeBlk w' b x p c :=
  (hb.block b (Array.getElem?_eq_some_iff.1 h).1).trans h
theorem CeBlk.grown {w w' : World} {b : Nat} {row : Option Nat} {x : Ce} {p : Option Addr} {c : Nat} (h : CeBlk w b x p c) (hg : w.grownBy w' row) (hr : some b ≠ row) : CeBlk w' b x p c :=
  (hg.block b (Array.getElem?_eq_some_iff.1 h).1 hr).trans h
theorem CeBlk.setN {w : World} {b : Nat} {x : Ce} {p : Option Addr} {c : Nat} (h : CeBlk w b x p c) (m : Int) : CeBlk (w.setCell ⟨b, 1, none⟩ (i64 m)) b { x with n := m } p c := heap_setCell_same w b 1 _ _ _ h
theorem CeBlk.setOwner {w : World} {b : Nat} {x : Ce} {p : Option Addr} {c : Nat} (h : CeBlk w b x p c) (m : Int) : CeBlk (w.setCell ⟨b, 2, none⟩ (i64 m)) b { x with owner := m } p c := heap_setCell_same w b 2 _ _ _ h
theorem CeBlk.setCame {w : World} {b : Nat} {x : Ce} {p : Option Addr} {c : Nat} (h : CeBlk w b x p c) (l : List Int) (p' : Option Addr) (c' : Nat) : CeBlk (w.setCell ⟨b, 4, none⟩ (.slice p' l.length c')) b { x with came := l } p' c' := heap_setCell_same w b 4 _ _ _ h
theorem CeBlk.setTurns {w : World} {b : Nat} {x : Ce} {p : Option Addr} {c : Nat} (h : CeBlk w b x p c) (m : Int) : CeBlk (w.setCell ⟨b, 5, none⟩ (i64 m)) b { x with turns := m } p c := heap_setCell_same w b 5 _ _ _ h
theorem CeBlk.setThere {w : World} {b : Nat} {x : Ce} {p : Option Addr} {c : Nat} (h : CeBlk w b x p c) (m : Bool) : CeBlk (w.setCell ⟨b, 6, none⟩ (.bool m)) b { x with there := m } p c := heap_setCell_same w b 6 _ _ _ h
theorem SlAt.set {w : World} {p : Option Addr} {c : Nat} {l : List Int} (h : SlAt w p c l) (b o : Nat) (v : Value) (hne : ∀ q, p = some q → q.block ≠ b) : SlAt (w.setCell ⟨b, o, none⟩ v) p c l :=
  ⟨h.1, h.2.1, h.2.2.1, h.2.2.2.set_other _ _ hne⟩
theorem SlAt.grown {w w' : World} {p : Option Addr} {c : Nat} {l : List Int} {row : Option Nat} (h : SlAt w p c l) (hg : w.grownBy w' row) (hr : ∀ a, p = some a → some a.block ≠ row) : SlAt w' p c l :=
  ⟨h.1, h.2.1, h.2.2.1, h.2.2.2.kept hg hr⟩

/-- What an access to a cell in memory tells. -/
def StepTell (b : Nat) (p : Option Addr) (c : Nat) (r : Ce × Int × Int) (w : World) (e : Ending) (w' : World) : Prop :=
  e = .returned (.tuple #[i64 r.2.1, i64 r.2.2]) ∧ (CeBlk w' b r.1 p c ∧ SlAt w' p c r.1.came) ∧ w.grownBy w' (some b)

theorem flag_any (t : Bool) (w : World) : Calls Try.prog 75 #[.bool t] w fun e w' => e = .returned (i64 (if t then 1 else 0)) ∧ w = w' := by
  cases t <;>
  · go_enter Try.func75, Try.ntmps75
    go_wp2
    go_ret
    exact ⟨rfl, rfl⟩

theorem gtr {a b c : World} {row : Option Nat} (h : a.grownBy b row) (k : b.grownBy c row) : a.grownBy c row :=
  ⟨k.os.trans h.os, k.tape.trans h.tape, k.output.trans h.output, Nat.le_trans h.size k.size, fun i hi hr => (k.block i (Nat.lt_of_lt_of_le hi h.size) hr).trans (h.block i hi hr)⟩
theorem grown_al (w : World) (o : Obj) (b : Nat) : w.grownBy (w.alloc o) (some b) := World.grownBy_alloc w o _
theorem grown_dr (w : World) (b : Nat) : w.grownBy w.drew (some b) := ⟨rfl, rfl, rfl, Nat.le_refl _, fun _ _ _ => rfl⟩

set_option maxHeartbeats 2000000 in
theorem number_any (x : Ce) (hx : x.kind = 1) (wk : Int) (a : Ac) (b : Nat) (p : Option Addr) (c : Nat) (w : World) (h : CeBlk w b x p c) (hs : SlAt w p c x.came) (hne : ∀ q, p = some q → q.block ≠ b) :
    Calls Try.prog 70 #[.pointer (some ⟨b, 0, none⟩), a.val] w (StepTell b p c (stepP x wk a) w) := by
  obtain ⟨kind, n, owner, need, came, turns, there⟩ := x
  obtain ⟨ak, ac, ao, an⟩ := a
  dsimp only at hx hs
  subst hx
  unfold Ac.val
  dsimp only
  have H := hid h
  obtain ⟨⟨k0, k1, k2, k3, k4, k5, k6⟩, kf, kl⟩ := h.facts
  clear h
  dsimp only at k0 k1 k2 k3 k4 k5 k6
  by_cases h1 : ak = 1
  · subst h1
    go_enter Try.func70, Try.ntmps70
    go_wp2
    go_ret2
    exact ⟨rfl, ⟨H.out.alloc _, hs.alloc _⟩, grown_al _ _ _⟩
  · by_cases h2 : ak = 2
    · subst h2
      clear h1
      by_cases hn : n = ao
      · have e1 : (n == ao) = true := by simpa using hn
        have HP : Hid (stepP ⟨1, n, owner, need, came, turns, there⟩ wk ⟨2, ac, ao, an⟩ = (⟨1, an, owner, need, came, turns, there⟩, 1, 0)) := by simp [Hid, stepP, hn]
        clear hn
        go_enter Try.func70, Try.ntmps70
        go_wp2_with (go_at_call 75; refine (flag_any _ _).mono ?_; rintro e w1 ⟨rfl, rfl⟩)
        go_ret2
        rw [HP.out]
        exact ⟨rfl, ⟨(H.out.setN an).alloc _, (hs.set b 1 _ hne).alloc _⟩, gtr (grown_set w b 1 _) (grown_al _ _ _)⟩
      · have e1 : (n == ao) = false := by simpa using hn
        have HP : Hid (stepP ⟨1, n, owner, need, came, turns, there⟩ wk ⟨2, ac, ao, an⟩ = (⟨1, n, owner, need, came, turns, there⟩, 0, 0)) := by simp [Hid, stepP, hn]
        clear hn
        go_enter Try.func70, Try.ntmps70
        go_wp2_with (go_at_call 75; refine (flag_any _ _).mono ?_; rintro e w1 ⟨rfl, rfl⟩)
        go_ret2
        rw [HP.out]
        exact ⟨rfl, ⟨H.out.alloc _, hs.alloc _⟩, grown_al _ _ _⟩
    · by_cases h9 : ak = 9
      · subst h9
        clear h1 h2
        have HP : Hid (stepP ⟨1, n, owner, need, came, turns, there⟩ wk ⟨9, ac, ao, an⟩ = (⟨1, wrap64 (n + an), owner, need, came, turns, there⟩, n, 0)) := by simp [Hid, stepP]
        go_enter Try.func70, Try.ntmps70
        go_wp2
        go_region
        go_wp2
        go_ret2
        rw [HP.out]
        exact ⟨rfl, ⟨((H.out.setN _).alloc _).drew, ((hs.set b 1 _ hne).alloc _).drew⟩, gtr (gtr (grown_set w b 1 _) (grown_al _ _ _)) (grown_dr _ _)⟩
      · have e1 : (ak == 1) = false := by simpa using h1
        have e2 : (ak == 2) = false := by simpa using h2
        have e9 : (ak == 9) = false := by simpa using h9
        have HP : Hid (stepP ⟨1, n, owner, need, came, turns, there⟩ wk ⟨ak, ac, ao, an⟩ = (⟨1, n, owner, need, came, turns, there⟩, 0, 230)) := by simp [Hid, stepP, h1, h2, h9]
        clear h1 h2 h9
        go_enter Try.func70, Try.ntmps70
        go_wp2
        go_ret2
        rw [HP.out]
        exact ⟨rfl, ⟨H.out.alloc _, hs.alloc _⟩, grown_al _ _ _⟩
end Go.Proofs.Ythmockfeffikjaa
namespace Go.Proofs.Ythmockfeffikjaa
open Go.RowKit

set_option maxHeartbeats 2000000 in
theorem lock_any (x : Ce) (hx : x.kind = 2) (wk : Int) (a : Ac) (b : Nat) (p : Option Addr) (c : Nat) (w : World) (h : CeBlk w b x p c) (hs : SlAt w p c x.came) (hne : ∀ q, p = some q → q.block ≠ b) :
    Calls Try.prog 71 #[.pointer (some ⟨b, 0, none⟩), i64 wk, a.val] w (StepTell b p c (stepP x wk a) w) := by
  obtain ⟨kind, n, owner, need, came, turns, there⟩ := x
  obtain ⟨ak, ac, ao, an⟩ := a
  dsimp only at hx hs
  subst hx
  unfold Ac.val
  dsimp only
  have H := hid h
  obtain ⟨⟨k0, k1, k2, k3, k4, k5, k6⟩, kf, kl⟩ := h.facts
  clear h
  dsimp only at k0 k1 k2 k3 k4 k5 k6
  by_cases h3 : ak = 3
  · subst h3
    by_cases ho : owner = wk
    · have e1 : (owner == wk) = true := by simpa using ho
      have e1' : (owner != wk) = false := by simpa using ho
      have HP : Hid (stepP ⟨2, n, owner, need, came, turns, there⟩ wk ⟨3, ac, ao, an⟩ = (⟨2, n, owner, need, came, turns, there⟩, 0, 232)) := by simp [Hid, stepP, ho]
      clear ho
      go_enter Try.func71, Try.ntmps71
      go_wp2
      go_ret2
      rw [HP.out]
      exact ⟨rfl, ⟨H.out.alloc _, hs.alloc _⟩, grown_al _ _ _⟩
    · have e1 : (owner == wk) = false := by simpa using ho
      have e1' : (owner != wk) = true := by simpa using ho
      by_cases hn : owner = -1
      · have e2 : (owner != -1) = false := by simpa using hn
        have HP : Hid (stepP ⟨2, n, owner, need, came, turns, there⟩ wk ⟨3, ac, ao, an⟩ = (⟨2, n, wk, need, came, turns, there⟩, 0, 0)) := by simp only [Hid, stepP, if_neg ho, if_pos hn]; simp
        clear ho hn
        go_enter Try.func71, Try.ntmps71
        go_wp2
        go_ret2
        rw [HP.out]
        exact ⟨rfl, ⟨(H.out.setOwner wk).alloc _, (hs.set b 2 _ hne).alloc _⟩, gtr (grown_set w b 2 _) (grown_al _ _ _)⟩
      · have e2 : (owner != -1) = true := by simpa using hn
        have HP : Hid (stepP ⟨2, n, owner, need, came, turns, there⟩ wk ⟨3, ac, ao, an⟩ = (⟨2, n, owner, need, came, turns, there⟩, 0, 231)) := by simp [Hid, stepP, ho, hn]
        clear ho hn
        go_enter Try.func71, Try.ntmps71
        go_wp2
        go_ret2
        rw [HP.out]
        exact ⟨rfl, ⟨H.out.alloc _, hs.alloc _⟩, grown_al _ _ _⟩
  · by_cases h4 : ak = 4
    · subst h4
      clear h3
      by_cases ho : owner = wk
      · have e1 : (owner == wk) = true := by simpa using ho
        have e1' : (owner != wk) = false := by simpa using ho
        have HP : Hid (stepP ⟨2, n, owner, need, came, turns, there⟩ wk ⟨4, ac, ao, an⟩ = (⟨2, n, -1, need, came, turns, there⟩, 0, 0)) := by simp [Hid, stepP, ho]
        clear ho
        go_enter Try.func71, Try.ntmps71
        go_wp2
        go_ret2
        rw [HP.out]
        exact ⟨rfl, ⟨(H.out.setOwner (-1)).alloc _, (hs.set b 2 _ hne).alloc _⟩, gtr (grown_set w b 2 _) (grown_al _ _ _)⟩
      · have e1 : (owner == wk) = false := by simpa using ho
        have e1' : (owner != wk) = true := by simpa using ho
        have HP : Hid (stepP ⟨2, n, owner, need, came, turns, there⟩ wk ⟨4, ac, ao, an⟩ = (⟨2, n, owner, need, came, turns, there⟩, 0, 232)) := by simp [Hid, stepP, ho]
        clear ho
        go_enter Try.func71, Try.ntmps71
        go_wp2
        go_ret2
        rw [HP.out]
        exact ⟨rfl, ⟨H.out.alloc _, hs.alloc _⟩, grown_al _ _ _⟩
    · have e3 : (ak == 3) = false := by simpa using h3
      have e4 : (ak == 4) = false := by simpa using h4
      have HP : Hid (stepP ⟨2, n, owner, need, came, turns, there⟩ wk ⟨ak, ac, ao, an⟩ = (⟨2, n, owner, need, came, turns, there⟩, 0, 230)) := by simp [Hid, stepP, h3, h4]
      clear h3 h4
      go_enter Try.func71, Try.ntmps71
      go_wp2
      go_ret2
      rw [HP.out]
      exact ⟨rfl, ⟨H.out.alloc _, hs.alloc _⟩, grown_al _ _ _⟩

set_option maxHeartbeats 2000000 in
theorem future_any (x : Ce) (hx : x.kind = 4) (wk : Int) (a : Ac) (b : Nat) (p : Option Addr) (c : Nat) (w : World) (h : CeBlk w b x p c) (hs : SlAt w p c x.came) (hne : ∀ q, p = some q → q.block ≠ b) :
    Calls Try.prog 73 #[.pointer (some ⟨b, 0, none⟩), a.val] w (StepTell b p c (stepP x wk a) w) := by
  obtain ⟨kind, n, owner, need, came, turns, there⟩ := x
  obtain ⟨ak, ac, ao, an⟩ := a
  dsimp only at hx hs
  subst hx
  unfold Ac.val
  dsimp only
  have H := hid h
  obtain ⟨⟨k0, k1, k2, k3, k4, k5, k6⟩, kf, kl⟩ := h.facts
  clear h
  dsimp only at k0 k1 k2 k3 k4 k5 k6
  by_cases h7 : ak = 7
  · subst h7
    cases there with
    | true =>
      go_enter Try.func73, Try.ntmps73
      go_wp2
      go_ret2
      exact ⟨rfl, ⟨H.out.alloc _, hs.alloc _⟩, grown_al _ _ _⟩
    | false =>
      go_enter Try.func73, Try.ntmps73
      go_wp2
      go_region
      all_goals
        go_wp2
        go_ret2
        exact ⟨rfl, ⟨(((H.out.setThere true).setN an).alloc _).drew, (((hs.set b 6 _ hne).set b 1 _ hne).alloc _).drew⟩, gtr (gtr (gtr (grown_set w b 6 _) (grown_set _ b 1 _)) (grown_al _ _ _)) (grown_dr _ _)⟩
  · by_cases h8 : ak = 8
    · subst h8
      clear h7
      cases there with
      | true =>
        go_enter Try.func73, Try.ntmps73
        go_wp2
        go_ret2
        exact ⟨rfl, ⟨H.out.alloc _, hs.alloc _⟩, grown_al _ _ _⟩
      | false =>
        go_enter Try.func73, Try.ntmps73
        go_wp2
        go_ret2
        exact ⟨rfl, ⟨H.out.alloc _, hs.alloc _⟩, grown_al _ _ _⟩
    · have e3 : (ak == 7) = false := by simpa using h7
      have e4 : (ak == 8) = false := by simpa using h8
      have HP : Hid (stepP ⟨4, n, owner, need, came, turns, there⟩ wk ⟨ak, ac, ao, an⟩ = (⟨4, n, owner, need, came, turns, there⟩, 0, 230)) := by simp [Hid, stepP, h7, h8]
      clear h7 h8
      go_enter Try.func73, Try.ntmps73
      go_wp2
      go_ret2
      rw [HP.out]
      exact ⟨rfl, ⟨H.out.alloc _, hs.alloc _⟩, grown_al _ _ _⟩
end Go.Proofs.Ythmockfeffikjaa
namespace Go.Proofs.Ythmockfeffikjaa
open Go.RowKit

/-- The same, with a border below which nothing has changed. -/
def StepTellB (B b : Nat) (r : Ce × Int × Int) (w : World) (e : Ending) (w' : World) : Prop :=
  e = .returned (.tuple #[i64 r.2.1, i64 r.2.2]) ∧ (∃ p c, CeBlk w' b r.1 p c ∧ SlAt w' p c r.1.came ∧ ∀ q, p = some q → B ≤ q.block ∧ q.block < w'.heap.size) ∧ Below B w w'
theorem StepTell.toB {B b : Nat} {p : Option Addr} {c : Nat} {r : Ce × Int × Int} {w : World} {e : Ending} {w' : World} (h : StepTell b p c r w e w') (hge : ∀ q, p = some q → B ≤ q.block ∧ q.block < w.heap.size) (hb : B ≤ b) (hw : B ≤ w.heap.size) : StepTellB B b r w e w' :=
  ⟨h.1, ⟨p, c, h.2.1.1, h.2.1.2, fun q hq => ⟨(hge q hq).1, Nat.lt_of_lt_of_le (hge q hq).2 h.2.2.size⟩⟩, (Below.refl _ _).grown h.2.2 hw (fun k e => by cases e; exact hb)⟩

theorem own_drew {w : World} {base : Nat} {e : TypeId} {size : Nat} {v : Value} {n : Nat} {xs : List Value} (h : w.ownsRow base e size v n xs) : w.drew.ownsRow base e size v n xs := h

theorem CeBlk.setSl {w : World} {b : Nat} {x : Ce} {p : Option Addr} {c : Nat} (h : CeBlk w b x p c) (l : List Int) (n : Nat) (hn : n = l.length) (p' : Option Addr) (c' : Nat) : CeBlk (w.setCell ⟨b, 4, none⟩ (.slice p' n c')) b { x with came := l } p' c' := by
  subst hn; exact h.setCame l p' c'

set_option maxHeartbeats 4000000 in
theorem barrier_any (x : Ce) (hx : x.kind = 3) (wk : Int) (a : Ac) (B b : Nat) (p : Option Addr) (c : Nat) (w : World) (h : CeBlk w b x p c) (ho : w.ownsRow B 3 1 (.slice p x.came.length c) x.came.length (i64s x.came)) (hne : ∀ q, p = some q → q.block ≠ b)
    (hB : B ≤ b) (ht0 : 0 ≤ x.turns) (ht1 : x.turns ≤ 1152921504606846976) (hl : x.came.length ≤ 64) :
    Calls Try.prog 72 #[.pointer (some ⟨b, 0, none⟩), i64 wk, a.val] w (StepTellB B b (stepP x wk a) w) := by
  obtain ⟨kind, n, owner, need, came, turns, there⟩ := x
  obtain ⟨ak, ac, ao, an⟩ := a
  dsimp only at hx ho ht0 ht1 hl
  subst hx
  unfold Ac.val
  dsimp only
  have hs := own_slat ho
  have H := hid h
  obtain ⟨⟨k0, k1, k2, k3, k4, k5, k6⟩, kf, kl⟩ := h.facts
  clear h
  dsimp only at k0 k1 k2 k3 k4 k5 k6
  have hBw : B ≤ w.heap.size := by omega
  have HGB := hid (own_ge ho)
  have HLB := hid (own_lt ho)
  have FIN := hid (fun (w' : World) (v e : Int) (hg : w.grownBy w' (some b)) (hk : CeBlk w' b ⟨3, n, owner, need, came, turns, there⟩ p c) (hs : SlAt w' p c came) (r : Ce × Int × Int) (hr : r = (⟨3, n, owner, need, came, turns, there⟩, v, e)) =>
    show StepTellB B b r w (.returned (.tuple #[i64 v, i64 e])) w' by
      subst hr
      exact ⟨rfl, ⟨p, c, hk, hs, fun q hq => ⟨HGB.out q.block (by subst hq; rfl), Nat.lt_of_lt_of_le (HLB.out q.block (by subst hq; rfl)) hg.size⟩⟩, (Below.refl _ _).grown hg hBw (fun k e => by cases e; exact hB)⟩)
  by_cases h6 : ak = 6
  · subst h6
    by_cases ht : turns ≤ ao
    · have e1 : decide (turns ≤ ao) = true := by simpa using ht
      have HP : Hid (stepP ⟨3, n, owner, need, came, turns, there⟩ wk ⟨6, ac, ao, an⟩ = (⟨3, n, owner, need, came, turns, there⟩, 0, 231)) := by simp [Hid, stepP, ht]
      clear ht
      go_enter Try.func72, Try.ntmps72
      go_wp2
      go_region
      all_goals
        go_wp2
        go_ret2
        exact FIN.out _ _ _ (gtr (grown_al _ _ _) (grown_dr _ _)) (H.out.alloc _).drew (hs.alloc _).drew _ HP.out
    · have e1 : decide (turns ≤ ao) = false := by simpa using ht
      have HP : Hid (stepP ⟨3, n, owner, need, came, turns, there⟩ wk ⟨6, ac, ao, an⟩ = (⟨3, n, owner, need, came, turns, there⟩, turns, 0)) := by simp [Hid, stepP, ht]
      clear ht
      go_enter Try.func72, Try.ntmps72
      go_wp2
      go_region
      all_goals
        go_wp2
        go_ret2
        exact FIN.out _ _ _ (gtr (grown_al _ _ _) (grown_dr _ _)) (H.out.alloc _).drew (hs.alloc _).drew _ HP.out
  · have e6 : (ak == 6) = false := by simpa using h6
    by_cases h5 : ak = 5
    · subst h5
      clear h6 e6
      have HCON := hid (fun w1 (hr : Row w1 p (i64s came)) => containsI_any p c came wk w1 (by unfold maxLen; omega) hr)
      cases hct : came.contains wk with
      | true =>
        rw [hct] at HCON
        have HP : Hid (stepP ⟨3, n, owner, need, came, turns, there⟩ wk ⟨5, ac, ao, an⟩ = (⟨3, n, owner, need, came, turns, there⟩, 0, 232)) := by simp only [Hid, stepP, hct]; simp
        clear hct
        go_enter Try.func72, Try.ntmps72
        go_wp2
        go_region
        all_goals
          go_wp2_with (go_at_call 66; refine (HCON.out _ (hs.alloc _).drew.2.2.2).mono ?_; rintro e w1 ⟨rfl, rfl⟩)
          go_ret2
          exact FIN.out _ _ _ (gtr (grown_al _ _ _) (grown_dr _ _)) (H.out.alloc _).drew (hs.alloc _).drew _ HP.out
      | false =>
        rw [hct] at HCON
        by_cases hmx : turns = 1152921504606846976
        · have e2 : (turns == 1152921504606846976) = true := by simpa using hmx
          have HP : Hid (stepP ⟨3, n, owner, need, came, turns, there⟩ wk ⟨5, ac, ao, an⟩ = (⟨3, n, owner, need, came, turns, there⟩, 0, 8)) := by simp only [Hid, stepP, hct, hmx]; simp
          clear hct hmx
          go_enter Try.func72, Try.ntmps72
          go_wp2
          go_region
          all_goals
            go_wp2_with (go_at_call 66; refine (HCON.out _ (hs.alloc _).drew.2.2.2).mono ?_; rintro e w1 ⟨rfl, rfl⟩)
            go_ret2
            exact FIN.out _ _ _ (gtr (grown_al _ _ _) (grown_dr _ _)) (H.out.alloc _).drew (hs.alloc _).drew _ HP.out
        · have e2 : (turns == 1152921504606846976) = false := by simpa using hmx
          have ht2 : turns < 1152921504606846976 := by omega
          have hbv : some b ≠ (Value.slice p came.length c).ownBlock := fun e => by
            cases p with
            | none => simp [Value.ownBlock] at e
            | some q => simp [Value.ownBlock] at e; exact hne q rfl e.symm
          have HGE := hid (own_ge ho)
          by_cases hfull : (came.length : Int) + 1 = need
          · have e3 : ((came.length : Int) + 1 == need) = true := by simpa using hfull
            have HP : Hid (stepP ⟨3, n, owner, need, came, turns, there⟩ wk ⟨5, ac, ao, an⟩ = (⟨3, n, owner, need, [], turns + 1, there⟩, turns, 0)) := by simp only [Hid, stepP, hct, if_neg hmx, if_pos hfull]; simp
            clear hct hmx hfull
            go_enter Try.func72, Try.ntmps72
            go_wp2
            go_region
            all_goals
              go_wp2_with (first
                | (go_at_call 66; refine (HCON.out _ (hs.alloc _).drew.2.2.2).mono ?_; rintro e w1 ⟨rfl, rfl⟩)
                | ((with_reducible show wpList _ _ _ (⟨some 58, _, _, _, _, _⟩ :: _) _ _); go_loud (refine wpList_app EI rfl _ _ rfl B (.slice p came.length c) came.length (i64s came) rfl ((own_drew (ho.alloc _)).alloc _) _ 1 1 [i64 wk] rfl rfl (by simp) (row_newAt _ _ _ _ (by simp)) (by simp [Value.oneCell']) (by unfold maxLen; omega) (by omega) (by simp; omega) ?_); intro v2 w4 ho4 hg4 hs4; have HK4 := hid ((((H.out.alloc _).drew).alloc _).grown hg4 hbv); have HO4 := hid ho4; obtain ⟨p4, c4, rfl, hr4⟩ := own_shape ho4; obtain ⟨⟨q0, q1, q2, q3, q4, q5, q6⟩, qf, ql⟩ := HK4.out.facts; dsimp only at q0 q1 q2 q3 q4 q5 q6))
              have hbw4 : Below B w w4 := (((((Below.refl B w).alloc hBw _).drew).alloc (by simp; omega) _).grown hg4 (by simp; omega) (fun k e => HGE.out k e))
              go_region
              go_wp2
              go_ret2
              rw [HP.out]
              exact ⟨rfl, ⟨none, 0, (((HK4.out.setSl (came ++ [wk]) _ (by simp) p4 c4).setCame [] none 0).setTurns (turns + 1)).drew, slat_nil _, by simp⟩, (((hbw4.setCell (p := ⟨b, 4, none⟩) hB _).setCell (p := ⟨b, 4, none⟩) hB _).setCell (p := ⟨b, 5, none⟩) hB _).drew⟩
          · have e3 : ((came.length : Int) + 1 == need) = false := by simpa using hfull
            have HP : Hid (stepP ⟨3, n, owner, need, came, turns, there⟩ wk ⟨5, ac, ao, an⟩ = (⟨3, n, owner, need, came ++ [wk], turns, there⟩, turns, 0)) := by simp only [Hid, stepP, hct, if_neg hmx, if_neg hfull]; simp
            clear hct hmx hfull
            go_enter Try.func72, Try.ntmps72
            go_wp2
            go_region
            all_goals
              go_wp2_with (first
                | (go_at_call 66; refine (HCON.out _ (hs.alloc _).drew.2.2.2).mono ?_; rintro e w1 ⟨rfl, rfl⟩)
                | ((with_reducible show wpList _ _ _ (⟨some 58, _, _, _, _, _⟩ :: _) _ _); go_loud (refine wpList_app EI rfl _ _ rfl B (.slice p came.length c) came.length (i64s came) rfl ((own_drew (ho.alloc _)).alloc _) _ 1 1 [i64 wk] rfl rfl (by simp) (row_newAt _ _ _ _ (by simp)) (by simp [Value.oneCell']) (by unfold maxLen; omega) (by omega) (by simp; omega) ?_); intro v2 w4 ho4 hg4 hs4; have HK4 := hid ((((H.out.alloc _).drew).alloc _).grown hg4 hbv); have HO4 := hid ho4; obtain ⟨p4, c4, rfl, hr4⟩ := own_shape ho4; obtain ⟨⟨q0, q1, q2, q3, q4, q5, q6⟩, qf, ql⟩ := HK4.out.facts; dsimp only at q0 q1 q2 q3 q4 q5 q6))
              have hbw4 : Below B w w4 := (((((Below.refl B w).alloc hBw _).drew).alloc (by simp; omega) _).grown hg4 (by simp; omega) (fun k e => HGE.out k e))
              have hsl4 : SlAt w4 p4 c4 (came ++ [wk]) := own_slat (n := came.length + 1) (m := came.length + 1) (by have := HO4.out; rwa [show i64s came ++ [i64 wk] = i64s (came ++ [wk]) by simp] at this)
              have hne4 : ∀ q, p4 = some q → q.block ≠ b := fun q hq e => by
                subst hq
                have := ne_stayed hs4 (fun e => hbv e.symm) (by simp; omega)
                exact this (by simp [Value.ownBlock, e])
              go_region
              go_wp2
              go_ret2
              rw [HP.out]
              exact ⟨rfl, ⟨p4, c4, (HK4.out.setSl (came ++ [wk]) _ (by simp) p4 c4).drew, (hsl4.set b 4 _ hne4).drew, fun q hq => ⟨own_ge HO4.out q.block (by subst hq; rfl), by have := own_lt HO4.out q.block (by subst hq; rfl); simp; omega⟩⟩, ((hbw4.setCell (p := ⟨b, 4, none⟩) hB _)).drew⟩
    · have e5 : (ak == 5) = false := by simpa using h5
      have HP : Hid (stepP ⟨3, n, owner, need, came, turns, there⟩ wk ⟨ak, ac, ao, an⟩ = (⟨3, n, owner, need, came, turns, there⟩, 0, 230)) := by simp [Hid, stepP, h5, h6]
      clear h5 h6
      go_enter Try.func72, Try.ntmps72
      go_wp2
      go_region
      all_goals
        go_wp2
        go_ret2
        exact FIN.out _ _ _ (gtr (grown_al _ _ _) (grown_dr _ _)) (H.out.alloc _).drew (hs.alloc _).drew _ HP.out
end Go.Proofs.Ythmockfeffikjaa
