/-
  The walks of number, lock and future: an access to a cell in memory of its own.
-/
import Derived.Test.YthmockfeffikjaaRCheck
namespace Go.Proofs.Ythmockfeffikjaa
open Go.RowKit

theorem grown_set (w : World) (b o : Nat) (v : Value) : w.grownBy (w.setCell ⟨b, o, none⟩ v) (some b) :=
  ⟨rfl, rfl, rfl, by simp, fun i _ hi => Below.heap_setCell w _ v i (fun e => hi (by rw [e]))⟩
theorem CeBlk.alloc {w : World} {b : Nat} {x : Ce} {p : Option Addr} {c : Nat} (h : CeBlk w b x p c) (o : Obj) : CeBlk (w.alloc o) b x p c :=
  (Below.heap_alloc w o b (Array.getElem?_eq_some_iff.1 h).1).trans h
theorem CeBlk.drew {w : World} {b : Nat} {x : Ce} {p : Option Addr} {c : Nat} (h : CeBlk w b x p c) : CeBlk w.drew b x p c := h
theorem CeBlk.below {w w' : World} {b : Nat} {x : Ce} {p : Option Addr} {c : Nat} (h : CeBlk w b x p c) (hb : Below w.heap.size w w') : CeBlk w' b x p c :=
  (hb.block b (Array.getElem?_eq_some_iff.1 h).1).trans h
theorem CeBlk.grown {w w' : World} {b : Nat} {row : Option Nat} {x : Ce} {p : Option Addr} {c : Nat} (h : CeBlk w b x p c) (hg : w.grownBy w' row) (hr : some b ≠ row) : CeBlk w' b x p c :=
  (hg.block b (Array.getElem?_eq_some_iff.1 h).1 hr).trans h
theorem CeBlk.setN {w : World} {b : Nat} {x : Ce} {p : Option Addr} {c : Nat} (h : CeBlk w b x p c) (m : Int) : CeBlk (w.setCell ⟨b, 1, none⟩ (i64 m)) b { x with n := m } p c := heap_setCell_same w b 1 _ _ _ h
theorem CeBlk.setOwner {w : World} {b : Nat} {x : Ce} {p : Option Addr} {c : Nat} (h : CeBlk w b x p c) (m : Int) : CeBlk (w.setCell ⟨b, 2, none⟩ (i64 m)) b { x with owner := m } p c := heap_setCell_same w b 2 _ _ _ h
theorem CeBlk.setCame {w : World} {b : Nat} {x : Ce} {p : Option Addr} {c : Nat} (h : CeBlk w b x p c) (l : List Int) (p' : Option Addr) (c' : Nat) : CeBlk (w.setCell ⟨b, 4, none⟩ (.slice p' l.length c')) b { x with came := l } p' c' := heap_setCell_same w b 4 _ _ _ h
theorem CeBlk.setTurns {w : World} {b : Nat} {x : Ce} {p : Option Addr} {c : Nat} (h : CeBlk w b x p c) (m : Int) : CeBlk (w.setCell ⟨b, 5, none⟩ (i64 m)) b { x with turns := m } p c := heap_setCell_same w b 5 _ _ _ h
theorem CeBlk.setThere {w : World} {b : Nat} {x : Ce} {p : Option Addr} {c : Nat} (h : CeBlk w b x p c) (m : Bool) : CeBlk (w.setCell ⟨b, 6, none⟩ (.bool m)) b { x with there := m } p c := heap_setCell_same w b 6 _ _ _ h
theorem SlAt.set {w : World} {p : Option Addr} {c : Nat} {l : List Int} (h : SlAt w p c l) (b o : Nat) (v : Value) (hne : ∀ q, p = some q → q.block ≠ b) : SlAt (w.setCell ⟨b, o, none⟩ v) p c l :=
  ⟨h.1, h.2.1, h.2.2.1, h.2.2.2.set_other _ _ hne⟩
theorem SlAt.grown {w w' : World} {p : Option Addr} {c : Nat} {l : List Int} {row : Option Nat} (h : SlAt w p c l) (hg : w.grownBy w' row) (hr : ∀ a, p = some a → some a.block ≠ row) : SlAt w' p c l :=
  ⟨h.1, h.2.1, h.2.2.1, h.2.2.2.kept hg hr⟩

/-- What an access to a cell in memory tells. -/
def StepTell (b : Nat) (p : Option Addr) (c : Nat) (r : Ce × Int × Int) (w : World) (e : Ending) (w' : World) : Prop :=
  e = .returned (.tuple #[i64 r.2.1, i64 r.2.2]) ∧ (CeBlk w' b r.1 p c ∧ SlAt w' p c r.1.came) ∧ w.grownBy w' (some b)

theorem flag_any (t : Bool) (w : World) : Calls Try.prog 75 #[.bool t] w fun e w' => e = .returned (i64 (if t then 1 else 0)) ∧ w = w' := by
  cases t <;>
  · go_enter Try.func75, Try.ntmps75
    go_wp2
    go_ret
    exact ⟨rfl, rfl⟩

theorem gtr {a b c : World} {row : Option Nat} (h : a.grownBy b row) (k : b.grownBy c row) : a.grownBy c row :=
  ⟨k.os.trans h.os, k.tape.trans h.tape, k.output.trans h.output, Nat.le_trans h.size k.size, fun i hi hr => (k.block i (Nat.lt_of_lt_of_le hi h.size) hr).trans (h.block i hi hr)⟩
theorem grown_al (w : World) (o : Obj) (b : Nat) : w.grownBy (w.alloc o) (some b) := World.grownBy_alloc w o _
theorem grown_dr (w : World) (b : Nat) : w.grownBy w.drew (some b) := ⟨rfl, rfl, rfl, Nat.le_refl _, fun _ _ _ => rfl⟩

set_option maxHeartbeats 2000000 in
theorem number_any (x : Ce) (hx : x.kind = 1) (wk : Int) (a : Ac) (b : Nat) (p : Option Addr) (c : Nat) (w : World) (h : CeBlk w b x p c) (hs : SlAt w p c x.came) (hne : ∀ q, p = some q → q.block ≠ b) :
    Calls Try.prog 70 #[.pointer (some ⟨b, 0, none⟩), a.val] w (StepTell b p c (stepP x wk a) w) := by
  obtain ⟨kind, n, owner, need, came, turns, there⟩ := x
  obtain ⟨ak, ac, ao, an⟩ := a
  dsimp only at hx hs
  subst hx
  unfold Ac.val
  dsimp only
  have H := hid h
  obtain ⟨⟨k0, k1, k2, k3, k4, k5, k6⟩, kf, kl⟩ := h.facts
  clear h
  dsimp only at k0 k1 k2 k3 k4 k5 k6
  by_cases h1 : ak = 1
  · subst h1
    go_enter Try.func70, Try.ntmps70
    go_wp2
    go_ret2
    exact ⟨rfl, ⟨H.out.alloc _, hs.alloc _⟩, grown_al _ _ _⟩
  · by_cases h2 : ak = 2
    · subst h2
      clear h1
      by_cases hn : n = ao
      · have e1 : (n == ao) = true := by simpa using hn
        have HP : Hid (stepP ⟨1, n, owner, need, came, turns, there⟩ wk ⟨2, ac, ao, an⟩ = (⟨1, an, owner, need, came, turns, there⟩, 1, 0)) := by simp [Hid, stepP, hn]
        clear hn
        go_enter Try.func70, Try.ntmps70
        go_wp2_with (go_at_call 75; refine (flag_any _ _).mono ?_; rintro e w1 ⟨rfl, rfl⟩)
        go_ret2
        rw [HP.out]
        exact ⟨rfl, ⟨(H.out.setN an).alloc _, (hs.set b 1 _ hne).alloc _⟩, gtr (grown_set w b 1 _) (grown_al _ _ _)⟩
      · have e1 : (n == ao) = false := by simpa using hn
        have HP : Hid (stepP ⟨1, n, owner, need, came, turns, there⟩ wk ⟨2, ac, ao, an⟩ = (⟨1, n, owner, need, came, turns, there⟩, 0, 0)) := by simp [Hid, stepP, hn]
        clear hn
        go_enter Try.func70, Try.ntmps70
        go_wp2_with (go_at_call 75; refine (flag_any _ _).mono ?_; rintro e w1 ⟨rfl, rfl⟩)
        go_ret2
        rw [HP.out]
        exact ⟨rfl, ⟨H.out.alloc _, hs.alloc _⟩, grown_al _ _ _⟩
    · by_cases h9 : ak = 9
      · subst h9
        clear h1 h2
        have HP : Hid (stepP ⟨1, n, owner, need, came, turns, there⟩ wk ⟨9, ac, ao, an⟩ = (⟨1, wrap64 (n + an), owner, need, came, turns, there⟩, n, 0)) := by simp [Hid, stepP]
        go_enter Try.func70, Try.ntmps70
        go_wp2
        go_region
        go_wp2
        go_ret2
        rw [HP.out]
        exact ⟨rfl, ⟨((H.out.setN _).alloc _).drew, ((hs.set b 1 _ hne).alloc _).drew⟩, gtr (gtr (grown_set w b 1 _) (grown_al _ _ _)) (grown_dr _ _)⟩
      · have e1 : (ak == 1) = false := by simpa using h1
        have e2 : (ak == 2) = false := by simpa using h2
        have e9 : (ak == 9) = false := by simpa using h9
        have HP : Hid (stepP ⟨1, n, owner, need, came, turns, there⟩ wk ⟨ak, ac, ao, an⟩ = (⟨1, n, owner, need, came, turns, there⟩, 0, 230)) := by simp [Hid, stepP, h1, h2, h9]
        clear h1 h2 h9
        go_enter Try.func70, Try.ntmps70
        go_wp2
        go_ret2
        rw [HP.out]
        exact ⟨rfl, ⟨H.out.alloc _, hs.alloc _⟩, grown_al _ _ _⟩
end Go.Proofs.Ythmockfeffikjaa
