/-
  Rows of cells.
  Plain facts on what an access makes of a cell.
  The walks of the document's number, lock and future.
  A cell's block behind a store of the whole cell.
-/
import Derived.Test.YthmockfeffikjaaJE8
import Derived.Test.YthmockfeffikjaaJE1
namespace Go.Proofs.Ythmockfeffikjaa
open Go.RowKit

/-- A cell with where its slice lies. -/
structure CeR where
  x : Ce
  p : Option Addr
  c : Nat
def CeR.cells (y : CeR) : List Value := [i64 y.x.kind, i64 y.x.n, i64 y.x.owner, i64 y.x.need, .slice y.p y.x.came.length y.c, i64 y.x.turns, .bool y.x.there]
def ceRow (ys : List CeR) : List Value := ys.flatMap CeR.cells
theorem ceRow_len (ys : List CeR) : (ceRow ys).length = 7 * ys.length := flat_len _ 7 (fun _ => rfl) ys

/-- The seven cells of element k. -/
theorem ce_cells {w : World} {b o : Nat} {ys : List CeR} (h : Row w (some ⟨b, o, none⟩) (ceRow ys)) (k : Nat) (hk : k < ys.length) :
    w.cell? ⟨b, o + k * 7, none⟩ = some (i64 ys[k].x.kind) ∧ w.cell? ⟨b, o + k * 7 + 1, none⟩ = some (i64 ys[k].x.n) ∧ w.cell? ⟨b, o + k * 7 + 2, none⟩ = some (i64 ys[k].x.owner) ∧ w.cell? ⟨b, o + k * 7 + 3, none⟩ = some (i64 ys[k].x.need) ∧
    w.cell? ⟨b, o + k * 7 + 4, none⟩ = some (.slice ys[k].p ys[k].x.came.length ys[k].c) ∧ w.cell? ⟨b, o + k * 7 + 5, none⟩ = some (i64 ys[k].x.turns) ∧ w.cell? ⟨b, o + k * 7 + 6, none⟩ = some (.bool ys[k].x.there) := by
  have each : ∀ j (hj : j < 7), w.cell? ⟨b, o + (k * 7 + j), none⟩ = (CeR.cells ys[k])[j]? := fun j hj => by
    have hl := ceRow_len ys
    rw [show k * 7 + j = 7 * k + j from by omega]
    rw [h.cell (7 * k + j) (by omega), ← flat_get CeR.cells 7 (fun _ => rfl) ys k hk j hj]
    exact (List.getElem?_eq_getElem (by have : 7 * k + j < (ceRow ys).length := by omega
                                        exact this)).symm
  exact ⟨each 0 (by omega), each 1 (by omega), each 2 (by omega), each 3 (by omega), each 4 (by omega), each 5 (by omega), each 6 (by omega)⟩

end Go.Proofs.Ythmockfeffikjaa
namespace Go.Proofs.Ythmockfeffikjaa
open Go.RowKit

theorem oneP_err (x : Ce) (wk : Int) (a : Ac) (h : (oneP x wk a).2.2 ≠ 0) : (oneP x wk a).1 = x ∧ (oneP x wk a).2.1 = 0 := by
  unfold oneP at h ⊢
  split
  · exact ⟨rfl, rfl⟩
  · split
    · exact ⟨rfl, rfl⟩
    · rename_i h1 h2
      rw [if_neg h1, if_neg h2] at h
      exact stepP_err x wk a h

theorem cameN_append {l : List Int} {v : Int} (h : cameN l l.length = true) (hv : isW v = true) (hc : l.contains v = false) : cameN (l ++ [v]) (l ++ [v]).length = true := by
  rw [List.length_append, List.length_singleton, cameN_succ]
  have e1 : cameN (l ++ [v]) l.length = cameN l l.length := by
    unfold cameN
    rw [Bool.eq_iff_iff, List.all_eq_true, List.all_eq_true]
    have each : ∀ i ∈ List.range l.length, (isW ((l ++ [v]).getD i 0) && !((l ++ [v]).take i).contains ((l ++ [v]).getD i 0)) = (isW (l.getD i 0) && !(l.take i).contains (l.getD i 0)) := fun i hi => by
      have hi := List.mem_range.1 hi
      have e : (l ++ [v]).getD i 0 = l.getD i 0 := by simp [List.getD, List.getElem?_append_left hi]
      rw [e, List.take_append_of_le_length (by omega)]
    exact ⟨fun g i hi => by rw [← each i hi]; exact g i hi, fun g i hi => by rw [each i hi]; exact g i hi⟩
  have e2 : (l ++ [v]).getD l.length 0 = v := by simp [List.getD]
  have e3 : (l ++ [v]).take l.length = l := by simp
  rw [e1, e2, e3, h, hv, hc]
  rfl

theorem gateP_iff (x : Ce) : gateP x = true ↔ 1 ≤ x.need ∧ x.need ≤ 64 ∧ (x.came.length : Int) < x.need ∧ 0 ≤ x.turns ∧ x.turns ≤ 1152921504606846976 ∧ cameN x.came x.came.length = true := by
  simp only [gateP, gateHead, Bool.and_eq_true, decide_eq_true_eq]
  exact ⟨fun ⟨⟨⟨⟨⟨a, b⟩, c⟩, d⟩, e⟩, f⟩ => ⟨a, b, c, d, e, f⟩, fun ⟨a, b, c, d, e, f⟩ => ⟨⟨⟨⟨⟨a, b⟩, c⟩, d⟩, e⟩, f⟩⟩

theorem stepP_ok (x : Ce) (wk : Int) (a : Ac) (hok : okP x = true) (hw : isW wk = true) (h : (stepP x wk a).2.2 = 0) : okP (stepP x wk a).1 = true := by
  obtain ⟨kind, n, owner, need, came, turns, there⟩ := x
  rcases okP_kind _ hok with hk | hk | hk | hk <;> (dsimp only at hk; subst hk)
  · unfold stepP at h ⊢
    simp only [reduceIte, Int.reduceEq] at h ⊢
    split
    · exact hok
    · split
      · split
        · simpa [okP] using hok
        · exact hok
      · split
        · simpa [okP] using hok
        · exact hok
  · unfold stepP at h ⊢
    simp only [reduceIte, Int.reduceEq] at h ⊢
    simp [okP] at hok
    split
    · split
      · simpa [okP] using hok
      · split
        · simp [okP, hw, hok]
        · simpa [okP] using hok
    · split
      · split
        · simp [okP, hok]
        · simpa [okP] using hok
      · simpa [okP] using hok
  · unfold stepP at h ⊢
    simp only [reduceIte, Int.reduceEq] at h ⊢
    simp [okP] at hok
    obtain ⟨⟨⟨hg, hn⟩, ho⟩, ht⟩ := hok
    have hg2 := (gateP_iff _).1 hg
    dsimp only at hg2
    obtain ⟨g1, g2, g3, g4, g5, g6⟩ := hg2
    subst hn ho ht
    have hself : okP ⟨3, 0, -1, need, came, turns, false⟩ = true := by simp [okP, hg]
    split
    · split
      · exact hself
      · exact hself
    · split
      · split
        · exact hself
        · split
          · exact hself
          · split
            · have : gateP ⟨3, 0, -1, need, [], turns + 1, false⟩ = true := by
                rw [gateP_iff]; dsimp only
                refine ⟨g1, g2, by simp; omega, by omega, by omega, by simp [cameN]⟩
              simp [okP, this]
            · rename_i hc _ _
              have : gateP ⟨3, 0, -1, need, came ++ [wk], turns, false⟩ = true := by
                rw [gateP_iff]; dsimp only
                refine ⟨g1, g2, by simp; omega, g4, g5, cameN_append g6 hw (by simpa using hc)⟩
              simp [okP, this]
      · exact hself
  · unfold stepP at h ⊢
    simp only [reduceIte, Int.reduceEq] at h ⊢
    simp [okP] at hok
    split
    · split
      · simpa [okP] using hok
      · simp [okP, hok]
    · split
      · split
        · simpa [okP] using hok
        · simpa [okP] using hok
      · simpa [okP] using hok
theorem oneP_ok (x : Ce) (wk : Int) (a : Ac) (h : (oneP x wk a).2.2 = 0) : okP (oneP x wk a).1 = true := by
  unfold oneP at h ⊢
  split
  · rename_i h1; rw [if_pos h1] at h; exact absurd h (by simp)
  · rename_i h1
    rw [if_neg h1] at h
    split
    · rename_i h2; rw [if_pos h2] at h; exact absurd h (by simp)
    · rename_i h2
      rw [if_neg h2] at h
      exact stepP_ok x wk a (by simpa using h1) (by simpa using h2) h
theorem ok_came {x : Ce} (h : okP x = true) : x.came.length ≤ 64 := by
  obtain ⟨kind, n, owner, need, came, turns, there⟩ := x
  rcases okP_kind _ h with hk | hk | hk | hk <;> (dsimp only at hk; subst hk)
  · simp [okP] at h; simp [h]
  · simp [okP] at h; simp [h]
  · simp [okP] at h
    have := (gateP_iff _).1 h.1.1.1
    dsimp only at this ⊢
    omega
  · simp [okP] at h; simp [h]
theorem oneP_came (x : Ce) (wk : Int) (a : Ac) : (oneP x wk a).1.came.length ≤ x.came.length ∨ (oneP x wk a).1.came.length ≤ 64 := by
  by_cases h : (oneP x wk a).2.2 = 0
  · exact .inr (ok_came (oneP_ok x wk a h))
  · exact .inl (by rw [(oneP_err x wk a h).1]; exact Nat.le_refl _)
end Go.Proofs.Ythmockfeffikjaa
namespace Go.Proofs.Ythmockfeffikjaa
open Go.RowKit

/-- What the document's step of a cell tells: its list lies where it lay, or anew. -/
def CeTellN (p0 : Option Addr) (c0 : Nat) (l0 : List Int) (x : Ce) (r : List Value) (w : World) (e : Ending) (w' : World) : Prop :=
  ∃ p c, e = .returned (.tuple ([x.val p c] ++ r).toArray) ∧ SlAt w' p c x.came ∧ ((p = p0 ∧ c = c0 ∧ x.came = l0) ∨ ∀ q, p = some q → w.heap.size ≤ q.block ∧ q.block < w'.heap.size) ∧ Below w.heap.size w w'

set_option maxHeartbeats 2000000 in
theorem rnumber_any (x : Ce) (hx : x.kind = 1) (wk : Int) (a : Ac) (p : Option Addr) (c : Nat) (w : World) (hs : SlAt w p c x.came) :
    Calls Try.prog 61 #[x.val p c, a.val] w (CeTellN p c x.came (stepP x wk a).1 [i64 (stepP x wk a).2.1, i64 (stepP x wk a).2.2] w) := by
  obtain ⟨kind, n, owner, need, came, turns, there⟩ := x
  obtain ⟨ak, ac, ao, an⟩ := a
  dsimp only at hx hs
  subst hx
  unfold Ce.val Ac.val
  dsimp only
  by_cases h_e1 : ak = 1
  · subst h_e1
    have HP : Hid (stepP ⟨1, n, owner, need, came, turns, there⟩ wk ⟨1, ac, ao, an⟩ = (⟨1, n, owner, need, came, turns, there⟩, n, 0)) := by simp [Hid, stepP]
    go_enter Try.func61, Try.ntmps61
    go_wp2
    exact bodyPost_ret (v := .tuple #[(Ce.mk 1 n owner need came turns there).val p c, i64 n, i64 0]) (by simp [results, Try.results61, go_sem, Ce.val]) rfl (by rw [HP.out]; exact ⟨p, c, rfl, ((hs.alloc _).alloc _).alloc _, .inl ⟨rfl, rfl, rfl⟩, (((Below.refl _ _).alloc (Nat.le_refl _) _).alloc (by simp) _).alloc (by simp; omega) _⟩)
  · by_cases h_e2 : ak = 2
    · subst h_e2
      clear h_e1
      by_cases hn : n = ao
      · have HP : Hid (stepP ⟨1, n, owner, need, came, turns, there⟩ wk ⟨2, ac, ao, an⟩ = (⟨1, an, owner, need, came, turns, there⟩, 1, 0)) := by simp [Hid, stepP, hn]
        have e1 : (n != ao) = false := by simpa using hn
        clear hn
        go_enter Try.func61, Try.ntmps61
        go_wp2
        exact bodyPost_ret (v := .tuple #[(Ce.mk 1 an owner need came turns there).val p c, i64 1, i64 0]) (by simp [results, Try.results61, go_sem, Ce.val]) rfl (by rw [HP.out]; exact ⟨p, c, rfl, ((hs.alloc _).alloc _).alloc _, .inl ⟨rfl, rfl, rfl⟩, (((Below.refl _ _).alloc (Nat.le_refl _) _).alloc (by simp) _).alloc (by simp; omega) _⟩)
      · have HP : Hid (stepP ⟨1, n, owner, need, came, turns, there⟩ wk ⟨2, ac, ao, an⟩ = (⟨1, n, owner, need, came, turns, there⟩, 0, 0)) := by simp [Hid, stepP, hn]
        have e1 : (n != ao) = true := by simpa using hn
        clear hn
        go_enter Try.func61, Try.ntmps61
        go_wp2
        exact bodyPost_ret (v := .tuple #[(Ce.mk 1 n owner need came turns there).val p c, i64 0, i64 0]) (by simp [results, Try.results61, go_sem, Ce.val]) rfl (by rw [HP.out]; exact ⟨p, c, rfl, ((hs.alloc _).alloc _).alloc _, .inl ⟨rfl, rfl, rfl⟩, (((Below.refl _ _).alloc (Nat.le_refl _) _).alloc (by simp) _).alloc (by simp; omega) _⟩)
    · by_cases h_e9 : ak = 9
      · subst h_e9
        clear h_e1 h_e2
        have HP : Hid (stepP ⟨1, n, owner, need, came, turns, there⟩ wk ⟨9, ac, ao, an⟩ = (⟨1, wrap64 (n + an), owner, need, came, turns, there⟩, n, 0)) := by simp [Hid, stepP]
        go_enter Try.func61, Try.ntmps61
        go_wp2
        exact bodyPost_ret (v := .tuple #[(Ce.mk 1 (wrap64 (n + an)) owner need came turns there).val p c, i64 n, i64 0]) (by simp [results, Try.results61, go_sem, Ce.val]) rfl (by rw [HP.out]; exact ⟨p, c, rfl, ((hs.alloc _).alloc _).alloc _, .inl ⟨rfl, rfl, rfl⟩, (((Below.refl _ _).alloc (Nat.le_refl _) _).alloc (by simp) _).alloc (by simp; omega) _⟩)
      · have HP : Hid (stepP ⟨1, n, owner, need, came, turns, there⟩ wk ⟨ak, ac, ao, an⟩ = (⟨1, n, owner, need, came, turns, there⟩, 0, 230)) := by simp [Hid, stepP, h_e1, h_e2, h_e9]
        have e1 : (ak == 1) = false := by simpa using h_e1
        have e2 : (ak == 2) = false := by simpa using h_e2
        have e9 : (ak == 9) = false := by simpa using h_e9
        clear h_e1 h_e2 h_e9
        go_enter Try.func61, Try.ntmps61
        go_wp2
        exact bodyPost_ret (v := .tuple #[(Ce.mk 1 n owner need came turns there).val p c, i64 0, i64 230]) (by simp [results, Try.results61, go_sem, Ce.val]) rfl (by rw [HP.out]; exact ⟨p, c, rfl, ((hs.alloc _).alloc _).alloc _, .inl ⟨rfl, rfl, rfl⟩, (((Below.refl _ _).alloc (Nat.le_refl _) _).alloc (by simp) _).alloc (by simp; omega) _⟩)

set_option maxHeartbeats 2000000 in
theorem rlock_any (x : Ce) (hx : x.kind = 2) (wk : Int) (a : Ac) (p : Option Addr) (c : Nat) (w : World) (hs : SlAt w p c x.came) (hok : okP x = true) :
    Calls Try.prog 62 #[x.val p c, i64 wk, a.val] w (CeTellN p c x.came (stepP x wk a).1 [i64 (stepP x wk a).2.1, i64 (stepP x wk a).2.2] w) := by
  obtain ⟨kind, n, owner, need, came, turns, there⟩ := x
  obtain ⟨ak, ac, ao, an⟩ := a
  dsimp only at hx hs hok
  subst hx
  unfold Ce.val Ac.val
  dsimp only
  have hown : owner = -1 ∨ 0 ≤ owner := by
    simp [okP, isW] at hok
    omega
  clear hok
  by_cases h3 : ak = 3
  · subst h3
    by_cases ho : owner = wk
    · have HP : Hid (stepP ⟨2, n, owner, need, came, turns, there⟩ wk ⟨3, ac, ao, an⟩ = (⟨2, n, owner, need, came, turns, there⟩, 0, 232)) := by simp [Hid, stepP, ho]
      have e1 : (owner == wk) = true := by simpa using ho
      have e1' : (owner != wk) = false := by simpa using ho
      clear ho
      go_enter Try.func62, Try.ntmps62
      go_wp2
      exact bodyPost_ret (v := .tuple #[(Ce.mk 2 n owner need came turns there).val p c, i64 0, i64 232]) (by simp [results, Try.results62, go_sem, Ce.val]) rfl (by rw [HP.out]; exact ⟨p, c, rfl, ((hs.alloc _).alloc _).alloc _, .inl ⟨rfl, rfl, rfl⟩, (((Below.refl _ _).alloc (Nat.le_refl _) _).alloc (by simp) _).alloc (by simp; omega) _⟩)
    · by_cases hn : owner = -1
      · have HP : Hid (stepP ⟨2, n, owner, need, came, turns, there⟩ wk ⟨3, ac, ao, an⟩ = (⟨2, n, wk, need, came, turns, there⟩, 0, 0)) := by simp only [Hid, stepP, if_neg ho, if_pos hn]; simp
        have e1 : (owner == wk) = false := by simpa using ho
        have e1' : (owner != wk) = true := by simpa using ho
        have e2 : owner < 0 := by omega
        clear ho hn hown
        go_enter Try.func62, Try.ntmps62
        go_wp2
        exact bodyPost_ret (v := .tuple #[(Ce.mk 2 n wk need came turns there).val p c, i64 0, i64 0]) (by simp [results, Try.results62, go_sem, Ce.val]) rfl (by rw [HP.out]; exact ⟨p, c, rfl, ((hs.alloc _).alloc _).alloc _, .inl ⟨rfl, rfl, rfl⟩, (((Below.refl _ _).alloc (Nat.le_refl _) _).alloc (by simp) _).alloc (by simp; omega) _⟩)
      · have HP : Hid (stepP ⟨2, n, owner, need, came, turns, there⟩ wk ⟨3, ac, ao, an⟩ = (⟨2, n, owner, need, came, turns, there⟩, 0, 231)) := by simp [Hid, stepP, ho, hn]
        have e1 : (owner == wk) = false := by simpa using ho
        have e1' : (owner != wk) = true := by simpa using ho
        have e2 : 0 ≤ owner := by omega
        clear ho hn hown
        go_enter Try.func62, Try.ntmps62
        go_wp2
        exact bodyPost_ret (v := .tuple #[(Ce.mk 2 n owner need came turns there).val p c, i64 0, i64 231]) (by simp [results, Try.results62, go_sem, Ce.val]) rfl (by rw [HP.out]; exact ⟨p, c, rfl, ((hs.alloc _).alloc _).alloc _, .inl ⟨rfl, rfl, rfl⟩, (((Below.refl _ _).alloc (Nat.le_refl _) _).alloc (by simp) _).alloc (by simp; omega) _⟩)
  · by_cases h4 : ak = 4
    · subst h4
      clear h3 hown
      by_cases ho : owner = wk
      · have HP : Hid (stepP ⟨2, n, owner, need, came, turns, there⟩ wk ⟨4, ac, ao, an⟩ = (⟨2, n, -1, need, came, turns, there⟩, 0, 0)) := by simp [Hid, stepP, ho]
        have e1 : (owner == wk) = true := by simpa using ho
        have e1' : (owner != wk) = false := by simpa using ho
        clear ho
        go_enter Try.func62, Try.ntmps62
        go_wp2
        exact bodyPost_ret (v := .tuple #[(Ce.mk 2 n (-1) need came turns there).val p c, i64 0, i64 0]) (by simp [results, Try.results62, go_sem, Ce.val]) rfl (by rw [HP.out]; exact ⟨p, c, rfl, ((hs.alloc _).alloc _).alloc _, .inl ⟨rfl, rfl, rfl⟩, (((Below.refl _ _).alloc (Nat.le_refl _) _).alloc (by simp) _).alloc (by simp; omega) _⟩)
      · have HP : Hid (stepP ⟨2, n, owner, need, came, turns, there⟩ wk ⟨4, ac, ao, an⟩ = (⟨2, n, owner, need, came, turns, there⟩, 0, 232)) := by simp [Hid, stepP, ho]
        have e1 : (owner == wk) = false := by simpa using ho
        have e1' : (owner != wk) = true := by simpa using ho
        clear ho
        go_enter Try.func62, Try.ntmps62
        go_wp2
        exact bodyPost_ret (v := .tuple #[(Ce.mk 2 n owner need came turns there).val p c, i64 0, i64 232]) (by simp [results, Try.results62, go_sem, Ce.val]) rfl (by rw [HP.out]; exact ⟨p, c, rfl, ((hs.alloc _).alloc _).alloc _, .inl ⟨rfl, rfl, rfl⟩, (((Below.refl _ _).alloc (Nat.le_refl _) _).alloc (by simp) _).alloc (by simp; omega) _⟩)
    · have HP : Hid (stepP ⟨2, n, owner, need, came, turns, there⟩ wk ⟨ak, ac, ao, an⟩ = (⟨2, n, owner, need, came, turns, there⟩, 0, 230)) := by simp [Hid, stepP, h3, h4]
      have e3 : (ak == 3) = false := by simpa using h3
      have e4 : (ak == 4) = false := by simpa using h4
      clear h3 h4 hown
      go_enter Try.func62, Try.ntmps62
      go_wp2
      exact bodyPost_ret (v := .tuple #[(Ce.mk 2 n owner need came turns there).val p c, i64 0, i64 230]) (by simp [results, Try.results62, go_sem, Ce.val]) rfl (by rw [HP.out]; exact ⟨p, c, rfl, ((hs.alloc _).alloc _).alloc _, .inl ⟨rfl, rfl, rfl⟩, (((Below.refl _ _).alloc (Nat.le_refl _) _).alloc (by simp) _).alloc (by simp; omega) _⟩)

set_option maxHeartbeats 2000000 in
theorem rfuture_any (x : Ce) (hx : x.kind = 4) (wk : Int) (a : Ac) (p : Option Addr) (c : Nat) (w : World) (hs : SlAt w p c x.came) :
    Calls Try.prog 64 #[x.val p c, a.val] w (CeTellN p c x.came (stepP x wk a).1 [i64 (stepP x wk a).2.1, i64 (stepP x wk a).2.2] w) := by
  obtain ⟨kind, n, owner, need, came, turns, there⟩ := x
  obtain ⟨ak, ac, ao, an⟩ := a
  dsimp only at hx hs
  subst hx
  unfold Ce.val Ac.val
  dsimp only
  by_cases h7 : ak = 7
  · subst h7
    cases there with
    | true =>
      have HP : Hid (stepP ⟨4, n, owner, need, came, turns, true⟩ wk ⟨7, ac, ao, an⟩ = (⟨4, n, owner, need, came, turns, true⟩, 0, 5)) := by simp [Hid, stepP]
      go_enter Try.func64, Try.ntmps64
      go_wp2
      exact bodyPost_ret (v := .tuple #[(Ce.mk 4 n owner need came turns true).val p c, i64 0, i64 5]) (by simp [results, Try.results64, go_sem, Ce.val]) rfl (by rw [HP.out]; exact ⟨p, c, rfl, ((hs.alloc _).alloc _).alloc _, .inl ⟨rfl, rfl, rfl⟩, (((Below.refl _ _).alloc (Nat.le_refl _) _).alloc (by simp) _).alloc (by simp; omega) _⟩)
    | false =>
      have HP : Hid (stepP ⟨4, n, owner, need, came, turns, false⟩ wk ⟨7, ac, ao, an⟩ = (⟨4, an, owner, need, came, turns, true⟩, 0, 0)) := by simp [Hid, stepP]
      go_enter Try.func64, Try.ntmps64
      go_wp2
      exact bodyPost_ret (v := .tuple #[(Ce.mk 4 an owner need came turns true).val p c, i64 0, i64 0]) (by simp [results, Try.results64, go_sem, Ce.val]) rfl (by rw [HP.out]; exact ⟨p, c, rfl, ((hs.alloc _).alloc _).alloc _, .inl ⟨rfl, rfl, rfl⟩, (((Below.refl _ _).alloc (Nat.le_refl _) _).alloc (by simp) _).alloc (by simp; omega) _⟩)
  · by_cases h8 : ak = 8
    · subst h8
      clear h7
      cases there with
      | true =>
        have HP : Hid (stepP ⟨4, n, owner, need, came, turns, true⟩ wk ⟨8, ac, ao, an⟩ = (⟨4, n, owner, need, came, turns, true⟩, n, 0)) := by simp [Hid, stepP]
        go_enter Try.func64, Try.ntmps64
        go_wp2
        go_region
        all_goals
          go_wp2
          exact bodyPost_ret (v := .tuple #[(Ce.mk 4 n owner need came turns true).val p c, i64 n, i64 0]) (by simp [results, Try.results64, go_sem, Ce.val]) rfl (by rw [HP.out]; exact ⟨p, c, rfl, (((hs.alloc _).alloc _).alloc _).drew, .inl ⟨rfl, rfl, rfl⟩, ((((Below.refl _ _).alloc (Nat.le_refl _) _).alloc (by simp) _).alloc (by simp; omega) _).drew⟩)
      | false =>
        have HP : Hid (stepP ⟨4, n, owner, need, came, turns, false⟩ wk ⟨8, ac, ao, an⟩ = (⟨4, n, owner, need, came, turns, false⟩, 0, 231)) := by simp [Hid, stepP]
        go_enter Try.func64, Try.ntmps64
        go_wp2
        exact bodyPost_ret (v := .tuple #[(Ce.mk 4 n owner need came turns false).val p c, i64 0, i64 231]) (by simp [results, Try.results64, go_sem, Ce.val]) rfl (by rw [HP.out]; exact ⟨p, c, rfl, ((hs.alloc _).alloc _).alloc _, .inl ⟨rfl, rfl, rfl⟩, (((Below.refl _ _).alloc (Nat.le_refl _) _).alloc (by simp) _).alloc (by simp; omega) _⟩)
    · have HP : Hid (stepP ⟨4, n, owner, need, came, turns, there⟩ wk ⟨ak, ac, ao, an⟩ = (⟨4, n, owner, need, came, turns, there⟩, 0, 230)) := by simp [Hid, stepP, h7, h8]
      have e3 : (ak == 7) = false := by simpa using h7
      have e4 : (ak == 8) = false := by simpa using h8
      clear h7 h8
      go_enter Try.func64, Try.ntmps64
      go_wp2
      exact bodyPost_ret (v := .tuple #[(Ce.mk 4 n owner need came turns there).val p c, i64 0, i64 230]) (by simp [results, Try.results64, go_sem, Ce.val]) rfl (by rw [HP.out]; exact ⟨p, c, rfl, ((hs.alloc _).alloc _).alloc _, .inl ⟨rfl, rfl, rfl⟩, (((Below.refl _ _).alloc (Nat.le_refl _) _).alloc (by simp) _).alloc (by simp; omega) _⟩)
end Go.Proofs.Ythmockfeffikjaa
namespace Go.Proofs.Ythmockfeffikjaa
open Go.RowKit
/-- A cell's block, stored into whole. -/
theorem ceblk_store {w : World} {b : Nat} {x : Ce} {p : Option Addr} {c : Nat} (h : CeBlk w b x p c) (x' : Ce) (p' : Option Addr) (c' : Nat) :
    CeBlk (((((((w.setCell ⟨b, 0, none⟩ (i64 x'.kind)).setCell ⟨b, 1, none⟩ (i64 x'.n)).setCell ⟨b, 2, none⟩ (i64 x'.owner)).setCell ⟨b, 3, none⟩ (i64 x'.need)).setCell ⟨b, 4, none⟩ (.slice p' x'.came.length c')).setCell ⟨b, 5, none⟩ (i64 x'.turns)).setCell ⟨b, 6, none⟩ (.bool x'.there)) b x' p' c' := by
  obtain ⟨kind, n, owner, need, came, turns, there⟩ := x
  obtain ⟨kind', n', owner', need', came', turns', there'⟩ := x'
  have h0 : CeBlk (w.setCell ⟨b, 0, none⟩ (i64 kind')) b ⟨kind', n, owner, need, came, turns, there⟩ p c := heap_setCell_same w b 0 _ _ _ h
  have h1 : CeBlk _ b ⟨kind', n', owner, need, came, turns, there⟩ p c := h0.setN n'
  have h2 : CeBlk _ b ⟨kind', n', owner', need, came, turns, there⟩ p c := h1.setOwner owner'
  have h3 : CeBlk (World.setCell _ ⟨b, 3, none⟩ (i64 need')) b ⟨kind', n', owner', need', came, turns, there⟩ p c := heap_setCell_same _ b 3 _ _ _ h2
  have h4 : CeBlk _ b ⟨kind', n', owner', need', came', turns, there⟩ p' c' := h3.setCame came' p' c'
  have h5 : CeBlk _ b ⟨kind', n', owner', need', came', turns', there⟩ p' c' := h4.setTurns turns'
  exact h5.setThere there'
theorem slat_store {w : World} {p : Option Addr} {c : Nat} {l : List Int} (h : SlAt w p c l) (b : Nat) (v0 v1 v2 v3 v4 v5 v6 : Value) (hne : ∀ q, p = some q → q.block ≠ b) :
    SlAt (((((((w.setCell ⟨b, 0, none⟩ v0).setCell ⟨b, 1, none⟩ v1).setCell ⟨b, 2, none⟩ v2).setCell ⟨b, 3, none⟩ v3).setCell ⟨b, 4, none⟩ v4).setCell ⟨b, 5, none⟩ v5).setCell ⟨b, 6, none⟩ v6) p c l := by
  have h0 := h.set b 0 v0 hne
  have h1 := h0.set b 1 v1 hne
  have h2 := h1.set b 2 v2 hne
  have h3 := h2.set b 3 v3 hne
  have h4 := h3.set b 4 v4 hne
  have h5 := h4.set b 5 v5 hne
  exact h5.set b 6 v6 hne
theorem below_store {B : Nat} {a w : World} (h : Below B a w) (b : Nat) (hb : B ≤ b) (v0 v1 v2 v3 v4 v5 v6 : Value) :
    Below B a (((((((w.setCell ⟨b, 0, none⟩ v0).setCell ⟨b, 1, none⟩ v1).setCell ⟨b, 2, none⟩ v2).setCell ⟨b, 3, none⟩ v3).setCell ⟨b, 4, none⟩ v4).setCell ⟨b, 5, none⟩ v5).setCell ⟨b, 6, none⟩ v6) := by
  have h0 := h.setCell (p := ⟨b, 0, none⟩) hb v0
  have h1 := h0.setCell (p := ⟨b, 1, none⟩) hb v1
  have h2 := h1.setCell (p := ⟨b, 2, none⟩) hb v2
  have h3 := h2.setCell (p := ⟨b, 3, none⟩) hb v3
  have h4 := h3.setCell (p := ⟨b, 4, none⟩) hb v4
  have h5 := h4.setCell (p := ⟨b, 5, none⟩) hb v5
  exact h5.setCell (p := ⟨b, 6, none⟩) hb v6

theorem ceblk_setO {w : World} {b b' : Nat} {x : Ce} {p : Option Addr} {c : Nat} (h : CeBlk w b x p c) (hne : b ≠ b') (o : Nat) (v : Value) : CeBlk (w.setCell ⟨b', o, none⟩ v) b x p c := (Below.heap_setCell w ⟨b', o, none⟩ v b hne).trans h
theorem ceblk_storeO {w : World} {b : Nat} {x : Ce} {p : Option Addr} {c : Nat} (h : CeBlk w b x p c) (b' : Nat) (hne : b ≠ b') (v0 v1 v2 v3 v4 v5 v6 : Value) :
    CeBlk (((((((w.setCell ⟨b', 0, none⟩ v0).setCell ⟨b', 1, none⟩ v1).setCell ⟨b', 2, none⟩ v2).setCell ⟨b', 3, none⟩ v3).setCell ⟨b', 4, none⟩ v4).setCell ⟨b', 5, none⟩ v5).setCell ⟨b', 6, none⟩ v6) b x p c := by
  have h0 := ceblk_setO h hne 0 v0
  have h1 := ceblk_setO h0 hne 1 v1
  have h2 := ceblk_setO h1 hne 2 v2
  have h3 := ceblk_setO h2 hne 3 v3
  have h4 := ceblk_setO h3 hne 4 v4
  have h5 := ceblk_setO h4 hne 5 v5
  exact ceblk_setO h5 hne 6 v6

end Go.Proofs.Ythmockfeffikjaa
