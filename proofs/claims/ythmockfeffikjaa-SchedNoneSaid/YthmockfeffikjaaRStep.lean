/-
  The walks of the document's number, lock and future.
-/
import Derived.Test.YthmockfeffikjaaStep
namespace Go.Proofs.Ythmockfeffikjaa
open Go.RowKit

/-- What the document's step of a cell tells: its list lies where it lay, or anew. -/
def CeTellN (p0 : Option Addr) (c0 : Nat) (l0 : List Int) (x : Ce) (r : List Value) (w : World) (e : Ending) (w' : World) : Prop :=
  ∃ p c, e = .returned (.tuple ([x.val p c] ++ r).toArray) ∧ SlAt w' p c x.came ∧ ((p = p0 ∧ c = c0 ∧ x.came = l0) ∨ ∀ q, p = some q → w.heap.size ≤ q.block ∧ q.block < w'.heap.size) ∧ Below w.heap.size w w'

set_option maxHeartbeats 2000000 in
theorem rnumber_any (x : Ce) (hx : x.kind = 1) (wk : Int) (a : Ac) (p : Option Addr) (c : Nat) (w : World) (hs : SlAt w p c x.came) :
    Calls Try.prog 61 #[x.val p c, a.val] w (CeTellN p c x.came (stepP x wk a).1 [i64 (stepP x wk a).2.1, i64 (stepP x wk a).2.2] w) := by
  obtain ⟨kind, n, owner, need, came, turns, there⟩ := x
  obtain ⟨ak, ac, ao, an⟩ := a
  dsimp only at hx hs
  subst hx
  unfold Ce.val Ac.val
  dsimp only
  by_cases h_e1 : ak = 1
  · subst h_e1
    have HP : Hid (stepP ⟨1, n, owner, need, came, turns, there⟩ wk ⟨1, ac, ao, an⟩ = (⟨1, n, owner, need, came, turns, there⟩, n, 0)) := by simp [Hid, stepP]
    go_enter Try.func61, Try.ntmps61
    go_wp2
    exact bodyPost_ret (v := .tuple #[(Ce.mk 1 n owner need came turns there).val p c, i64 n, i64 0]) (by simp [results, Try.results61, go_sem, Ce.val]) rfl (by rw [HP.out]; exact ⟨p, c, rfl, ((hs.alloc _).alloc _).alloc _, .inl ⟨rfl, rfl, rfl⟩, (((Below.refl _ _).alloc (Nat.le_refl _) _).alloc (by simp) _).alloc (by simp; omega) _⟩)
  · by_cases h_e2 : ak = 2
    · subst h_e2
      clear h_e1
      by_cases hn : n = ao
      · have HP : Hid (stepP ⟨1, n, owner, need, came, turns, there⟩ wk ⟨2, ac, ao, an⟩ = (⟨1, an, owner, need, came, turns, there⟩, 1, 0)) := by simp [Hid, stepP, hn]
        have e1 : (n != ao) = false := by simpa using hn
        clear hn
        go_enter Try.func61, Try.ntmps61
        go_wp2
        exact bodyPost_ret (v := .tuple #[(Ce.mk 1 an owner need came turns there).val p c, i64 1, i64 0]) (by simp [results, Try.results61, go_sem, Ce.val]) rfl (by rw [HP.out]; exact ⟨p, c, rfl, ((hs.alloc _).alloc _).alloc _, .inl ⟨rfl, rfl, rfl⟩, (((Below.refl _ _).alloc (Nat.le_refl _) _).alloc (by simp) _).alloc (by simp; omega) _⟩)
      · have HP : Hid (stepP ⟨1, n, owner, need, came, turns, there⟩ wk ⟨2, ac, ao, an⟩ = (⟨1, n, owner, need, came, turns, there⟩, 0, 0)) := by simp [Hid, stepP, hn]
        have e1 : (n != ao) = true := by simpa using hn
        clear hn
        go_enter Try.func61, Try.ntmps61
        go_wp2
        exact bodyPost_ret (v := .tuple #[(Ce.mk 1 n owner need came turns there).val p c, i64 0, i64 0]) (by simp [results, Try.results61, go_sem, Ce.val]) rfl (by rw [HP.out]; exact ⟨p, c, rfl, ((hs.alloc _).alloc _).alloc _, .inl ⟨rfl, rfl, rfl⟩, (((Below.refl _ _).alloc (Nat.le_refl _) _).alloc (by simp) _).alloc (by simp; omega) _⟩)
    · by_cases h_e9 : ak = 9
      · subst h_e9
        clear h_e1 h_e2
        have HP : Hid (stepP ⟨1, n, owner, need, came, turns, there⟩ wk ⟨9, ac, ao, an⟩ = (⟨1, wrap64 (n + an), owner, need, came, turns, there⟩, n, 0)) := by simp [Hid, stepP]
        go_enter Try.func61, Try.ntmps61
        go_wp2
        exact bodyPost_ret (v := .tuple #[(Ce.mk 1 (wrap64 (n + an)) owner need came turns there).val p c, i64 n, i64 0]) (by simp [results, Try.results61, go_sem, Ce.val]) rfl (by rw [HP.out]; exact ⟨p, c, rfl, ((hs.alloc _).alloc _).alloc _, .inl ⟨rfl, rfl, rfl⟩, (((Below.refl _ _).alloc (Nat.le_refl _) _).alloc (by simp) _).alloc (by simp; omega) _⟩)
      · have HP : Hid (stepP ⟨1, n, owner, need, came, turns, there⟩ wk ⟨ak, ac, ao, an⟩ = (⟨1, n, owner, need, came, turns, there⟩, 0, 230)) := by simp [Hid, stepP, h_e1, h_e2, h_e9]
        have e1 : (ak == 1) = false := by simpa using h_e1
        have e2 : (ak == 2) = false := by simpa using h_e2
        have e9 : (ak == 9) = false := by simpa using h_e9
        clear h_e1 h_e2 h_e9
        go_enter Try.func61, Try.ntmps61
        go_wp2
        exact bodyPost_ret (v := .tuple #[(Ce.mk 1 n owner need came turns there).val p c, i64 0, i64 230]) (by simp [results, Try.results61, go_sem, Ce.val]) rfl (by rw [HP.out]; exact ⟨p, c, rfl, ((hs.alloc _).alloc _).alloc _, .inl ⟨rfl, rfl, rfl⟩, (((Below.refl _ _).alloc (Nat.le_refl _) _).alloc (by simp) _).alloc (by simp; omega) _⟩)

set_option maxHeartbeats 2000000 in
theorem rlock_any (x : Ce) (hx : x.kind = 2) (wk : Int) (a : Ac) (p : Option Addr) (c : Nat) (w : World) (hs : SlAt w p c x.came) (hok : okP x = true) :
    Calls Try.prog 62 #[x.val p c, i64 wk, a.val] w (CeTellN p c x.came (stepP x wk a).1 [i64 (stepP x wk a).2.1, i64 (stepP x wk a).2.2] w) := by
  obtain ⟨kind, n, owner, need, came, turns, there⟩ := x
  obtain ⟨ak, ac, ao, an⟩ := a
  dsimp only at hx hs hok
  subst hx
  unfold Ce.val Ac.val
  dsimp only
  have hown : owner = -1 ∨ 0 ≤ owner := by
    simp [okP, isW] at hok
    omega
  clear hok
  by_cases h3 : ak = 3
  · subst h3
    by_cases ho : owner = wk
    · have HP : Hid (stepP ⟨2, n, owner, need, came, turns, there⟩ wk ⟨3, ac, ao, an⟩ = (⟨2, n, owner, need, came, turns, there⟩, 0, 232)) := by simp [Hid, stepP, ho]
      have e1 : (owner == wk) = true := by simpa using ho
      have e1' : (owner != wk) = false := by simpa using ho
      clear ho
      go_enter Try.func62, Try.ntmps62
      go_wp2
      exact bodyPost_ret (v := .tuple #[(Ce.mk 2 n owner need came turns there).val p c, i64 0, i64 232]) (by simp [results, Try.results62, go_sem, Ce.val]) rfl (by rw [HP.out]; exact ⟨p, c, rfl, ((hs.alloc _).alloc _).alloc _, .inl ⟨rfl, rfl, rfl⟩, (((Below.refl _ _).alloc (Nat.le_refl _) _).alloc (by simp) _).alloc (by simp; omega) _⟩)
    · by_cases hn : owner = -1
      · have HP : Hid (stepP ⟨2, n, owner, need, came, turns, there⟩ wk ⟨3, ac, ao, an⟩ = (⟨2, n, wk, need, came, turns, there⟩, 0, 0)) := by simp only [Hid, stepP, if_neg ho, if_pos hn]; simp
        have e1 : (owner == wk) = false := by simpa using ho
        have e1' : (owner != wk) = true := by simpa using ho
        have e2 : owner < 0 := by omega
        clear ho hn hown
        go_enter Try.func62, Try.ntmps62
        go_wp2
        exact bodyPost_ret (v := .tuple #[(Ce.mk 2 n wk need came turns there).val p c, i64 0, i64 0]) (by simp [results, Try.results62, go_sem, Ce.val]) rfl (by rw [HP.out]; exact ⟨p, c, rfl, ((hs.alloc _).alloc _).alloc _, .inl ⟨rfl, rfl, rfl⟩, (((Below.refl _ _).alloc (Nat.le_refl _) _).alloc (by simp) _).alloc (by simp; omega) _⟩)
      · have HP : Hid (stepP ⟨2, n, owner, need, came, turns, there⟩ wk ⟨3, ac, ao, an⟩ = (⟨2, n, owner, need, came, turns, there⟩, 0, 231)) := by simp [Hid, stepP, ho, hn]
        have e1 : (owner == wk) = false := by simpa using ho
        have e1' : (owner != wk) = true := by simpa using ho
        have e2 : 0 ≤ owner := by omega
        clear ho hn hown
        go_enter Try.func62, Try.ntmps62
        go_wp2
        exact bodyPost_ret (v := .tuple #[(Ce.mk 2 n owner need came turns there).val p c, i64 0, i64 231]) (by simp [results, Try.results62, go_sem, Ce.val]) rfl (by rw [HP.out]; exact ⟨p, c, rfl, ((hs.alloc _).alloc _).alloc _, .inl ⟨rfl, rfl, rfl⟩, (((Below.refl _ _).alloc (Nat.le_refl _) _).alloc (by simp) _).alloc (by simp; omega) _⟩)
  · by_cases h4 : ak = 4
    · subst h4
      clear h3 hown
      by_cases ho : owner = wk
      · have HP : Hid (stepP ⟨2, n, owner, need, came, turns, there⟩ wk ⟨4, ac, ao, an⟩ = (⟨2, n, -1, need, came, turns, there⟩, 0, 0)) := by simp [Hid, stepP, ho]
        have e1 : (owner == wk) = true := by simpa using ho
        have e1' : (owner != wk) = false := by simpa using ho
        clear ho
        go_enter Try.func62, Try.ntmps62
        go_wp2
        exact bodyPost_ret (v := .tuple #[(Ce.mk 2 n (-1) need came turns there).val p c, i64 0, i64 0]) (by simp [results, Try.results62, go_sem, Ce.val]) rfl (by rw [HP.out]; exact ⟨p, c, rfl, ((hs.alloc _).alloc _).alloc _, .inl ⟨rfl, rfl, rfl⟩, (((Below.refl _ _).alloc (Nat.le_refl _) _).alloc (by simp) _).alloc (by simp; omega) _⟩)
      · have HP : Hid (stepP ⟨2, n, owner, need, came, turns, there⟩ wk ⟨4, ac, ao, an⟩ = (⟨2, n, owner, need, came, turns, there⟩, 0, 232)) := by simp [Hid, stepP, ho]
        have e1 : (owner == wk) = false := by simpa using ho
        have e1' : (owner != wk) = true := by simpa using ho
        clear ho
        go_enter Try.func62, Try.ntmps62
        go_wp2
        exact bodyPost_ret (v := .tuple #[(Ce.mk 2 n owner need came turns there).val p c, i64 0, i64 232]) (by simp [results, Try.results62, go_sem, Ce.val]) rfl (by rw [HP.out]; exact ⟨p, c, rfl, ((hs.alloc _).alloc _).alloc _, .inl ⟨rfl, rfl, rfl⟩, (((Below.refl _ _).alloc (Nat.le_refl _) _).alloc (by simp) _).alloc (by simp; omega) _⟩)
    · have HP : Hid (stepP ⟨2, n, owner, need, came, turns, there⟩ wk ⟨ak, ac, ao, an⟩ = (⟨2, n, owner, need, came, turns, there⟩, 0, 230)) := by simp [Hid, stepP, h3, h4]
      have e3 : (ak == 3) = false := by simpa using h3
      have e4 : (ak == 4) = false := by simpa using h4
      clear h3 h4 hown
      go_enter Try.func62, Try.ntmps62
      go_wp2
      exact bodyPost_ret (v := .tuple #[(Ce.mk 2 n owner need came turns there).val p c, i64 0, i64 230]) (by simp [results, Try.results62, go_sem, Ce.val]) rfl (by rw [HP.out]; exact ⟨p, c, rfl, ((hs.alloc _).alloc _).alloc _, .inl ⟨rfl, rfl, rfl⟩, (((Below.refl _ _).alloc (Nat.le_refl _) _).alloc (by simp) _).alloc (by simp; omega) _⟩)

set_option maxHeartbeats 2000000 in
theorem rfuture_any (x : Ce) (hx : x.kind = 4) (wk : Int) (a : Ac) (p : Option Addr) (c : Nat) (w : World) (hs : SlAt w p c x.came) :
    Calls Try.prog 64 #[x.val p c, a.val] w (CeTellN p c x.came (stepP x wk a).1 [i64 (stepP x wk a).2.1, i64 (stepP x wk a).2.2] w) := by
  obtain ⟨kind, n, owner, need, came, turns, there⟩ := x
  obtain ⟨ak, ac, ao, an⟩ := a
  dsimp only at hx hs
  subst hx
  unfold Ce.val Ac.val
  dsimp only
  by_cases h7 : ak = 7
  · subst h7
    cases there with
    | true =>
      have HP : Hid (stepP ⟨4, n, owner, need, came, turns, true⟩ wk ⟨7, ac, ao, an⟩ = (⟨4, n, owner, need, came, turns, true⟩, 0, 5)) := by simp [Hid, stepP]
      go_enter Try.func64, Try.ntmps64
      go_wp2
      exact bodyPost_ret (v := .tuple #[(Ce.mk 4 n owner need came turns true).val p c, i64 0, i64 5]) (by simp [results, Try.results64, go_sem, Ce.val]) rfl (by rw [HP.out]; exact ⟨p, c, rfl, ((hs.alloc _).alloc _).alloc _, .inl ⟨rfl, rfl, rfl⟩, (((Below.refl _ _).alloc (Nat.le_refl _) _).alloc (by simp) _).alloc (by simp; omega) _⟩)
    | false =>
      have HP : Hid (stepP ⟨4, n, owner, need, came, turns, false⟩ wk ⟨7, ac, ao, an⟩ = (⟨4, an, owner, need, came, turns, true⟩, 0, 0)) := by simp [Hid, stepP]
      go_enter Try.func64, Try.ntmps64
      go_wp2
      exact bodyPost_ret (v := .tuple #[(Ce.mk 4 an owner need came turns true).val p c, i64 0, i64 0]) (by simp [results, Try.results64, go_sem, Ce.val]) rfl (by rw [HP.out]; exact ⟨p, c, rfl, ((hs.alloc _).alloc _).alloc _, .inl ⟨rfl, rfl, rfl⟩, (((Below.refl _ _).alloc (Nat.le_refl _) _).alloc (by simp) _).alloc (by simp; omega) _⟩)
  · by_cases h8 : ak = 8
    · subst h8
      clear h7
      cases there with
      | true =>
        have HP : Hid (stepP ⟨4, n, owner, need, came, turns, true⟩ wk ⟨8, ac, ao, an⟩ = (⟨4, n, owner, need, came, turns, true⟩, n, 0)) := by simp [Hid, stepP]
        go_enter Try.func64, Try.ntmps64
        go_wp2
        go_region
        all_goals
          go_wp2
          exact bodyPost_ret (v := .tuple #[(Ce.mk 4 n owner need came turns true).val p c, i64 n, i64 0]) (by simp [results, Try.results64, go_sem, Ce.val]) rfl (by rw [HP.out]; exact ⟨p, c, rfl, (((hs.alloc _).alloc _).alloc _).drew, .inl ⟨rfl, rfl, rfl⟩, ((((Below.refl _ _).alloc (Nat.le_refl _) _).alloc (by simp) _).alloc (by simp; omega) _).drew⟩)
      | false =>
        have HP : Hid (stepP ⟨4, n, owner, need, came, turns, false⟩ wk ⟨8, ac, ao, an⟩ = (⟨4, n, owner, need, came, turns, false⟩, 0, 231)) := by simp [Hid, stepP]
        go_enter Try.func64, Try.ntmps64
        go_wp2
        exact bodyPost_ret (v := .tuple #[(Ce.mk 4 n owner need came turns false).val p c, i64 0, i64 231]) (by simp [results, Try.results64, go_sem, Ce.val]) rfl (by rw [HP.out]; exact ⟨p, c, rfl, ((hs.alloc _).alloc _).alloc _, .inl ⟨rfl, rfl, rfl⟩, (((Below.refl _ _).alloc (Nat.le_refl _) _).alloc (by simp) _).alloc (by simp; omega) _⟩)
    · have HP : Hid (stepP ⟨4, n, owner, need, came, turns, there⟩ wk ⟨ak, ac, ao, an⟩ = (⟨4, n, owner, need, came, turns, there⟩, 0, 230)) := by simp [Hid, stepP, h7, h8]
      have e3 : (ak == 7) = false := by simpa using h7
      have e4 : (ak == 8) = false := by simpa using h8
      clear h7 h8
      go_enter Try.func64, Try.ntmps64
      go_wp2
      exact bodyPost_ret (v := .tuple #[(Ce.mk 4 n owner need came turns there).val p c, i64 0, i64 230]) (by simp [results, Try.results64, go_sem, Ce.val]) rfl (by rw [HP.out]; exact ⟨p, c, rfl, ((hs.alloc _).alloc _).alloc _, .inl ⟨rfl, rfl, rfl⟩, (((Below.refl _ _).alloc (Nat.le_refl _) _).alloc (by simp) _).alloc (by simp; omega) _⟩)
end Go.Proofs.Ythmockfeffikjaa
