/-
  The accesses in the words of one worker's state.
-/
import Derived.Test.YtpgdpddmgljpmaaD1
namespace Go.Proofs.Ytpgdpddmgljpmaa
open Go.RowKit

/-- What one worker sees: the shared numbers and places, and its own hand. -/
structure SS where
  top : Int
  bottom : Int
  count : Int
  pl : List Int
  at_ : Int
  t : Int
  b : Int
  v : Int
  won : Bool
  said : List (Bool × Int)

/-- It stands so in memory: the deque at d, the hand at h, the places at P. -/
structure St (w : World) (base d h P c : Nat) (wv hs : Value) (S : SS) (sv : Value) : Prop where
  dd : DAt w d ⟨S.top, S.bottom, .slice (some ⟨P, 0, none⟩) S.pl.length c, S.count, hs⟩
  hh : HAt w h ⟨wv, sv, S.at_, S.t, S.b, S.v, S.won⟩
  pp : PAt w P S.pl
  own : w.ownsRow base 40 2 sv S.said.length (ansCells S.said)
  hb : base ≤ w.heap.size
variable {w w' : World} {base d h P c : Nat} {wv hs : Value} {S : SS} {sv : Value}
theorem St.ndh (H : St w base d h P c wv hs S sv) : d ≠ h := fun e => by
  have h1 := H.dd; have h2 := H.hh; unfold DAt at h1; unfold HAt at h2; subst e; rw [h1] at h2; cases h2
theorem St.ndP (H : St w base d h P c wv hs S sv) : d ≠ P := fun e => by
  have h1 := H.dd; have h2 := H.pp; unfold DAt at h1; unfold PAt at h2; subst e; rw [h1] at h2; injection h2 with h2; injection h2 with _ h3; cases h3
theorem St.nhP (H : St w base d h P c wv hs S sv) : h ≠ P := fun e => by
  have h1 := H.hh; have h2 := H.pp; unfold HAt at h1; unfold PAt at h2; subst e; rw [h1] at h2; injection h2 with h2; injection h2 with _ h3; cases h3
theorem St.nod (H : St w base d h P c wv hs S sv) : ∀ g, sv.ownBlock = some g → g ≠ d := fun g hg e => by
  obtain ⟨cur, hc⟩ := own_typeA H.own g hg; have h1 := H.dd; unfold DAt at h1; subst e; rw [h1] at hc; cases hc
theorem St.noh (H : St w base d h P c wv hs S sv) : ∀ g, sv.ownBlock = some g → g ≠ h := hnb _ H.own H.hh
theorem St.noP (H : St w base d h P c wv hs S sv) : ∀ g, sv.ownBlock = some g → g ≠ P := fun g hg e => by
  obtain ⟨cur, hc⟩ := own_typeA H.own g hg; have h1 := H.pp; unfold PAt at h1; subst e; rw [h1] at hc; cases hc
theorem St.drewN (H : St w base d h P c wv hs S sv) (q : Nat) : St (w.drewN q) base d h P c wv hs S sv := ⟨H.dd, H.hh, H.pp, own_drewN H.own q, H.hb⟩
theorem St.drew (H : St w base d h P c wv hs S sv) : St w.drew base d h P c wv hs S sv := H.drewN 1
theorem own_row_ne (ho : w.ownsRow base 40 2 sv S.said.length (ansCells S.said)) {row : Option Nat} (hg : w.grownBy w' row) (hr : ∀ g, sv.ownBlock = some g → some g ≠ row) : w'.ownsRow base 40 2 sv S.said.length (ansCells S.said) := by
  refine ho.kept hg ?_
  rcases ho.2 with ⟨rfl, _⟩ | ⟨g, cap, cur, rfl, _, _, _⟩
  · exact .inl rfl
  · exact .inr (fun e => hr g rfl e)

/-- The deque's block has turned. -/
theorem St.turnD {top bottom count : Int} (H : St w base d h P c wv hs S sv) (hg : w.grownBy w' (some d)) (hd : DAt w' d ⟨top, bottom, .slice (some ⟨P, 0, none⟩) S.pl.length c, count, hs⟩) :
    St w' base d h P c wv hs { S with top := top, bottom := bottom, count := count } sv :=
  ⟨hd, H.hh.kept hg (fun e => H.ndh (Option.some.inj e).symm), H.pp.kept hg (fun e => H.ndP (Option.some.inj e).symm), own_row_ne (S := S) H.own hg (fun g hg' e => H.nod g hg' (Option.some.inj e)), Nat.le_trans H.hb hg.size⟩
/-- The hand's block has turned, but not what it said. -/
theorem St.turnH {at_ t b v : Int} {won : Bool} (H : St w base d h P c wv hs S sv) (hg : w.grownBy w' (some h)) (hd : HAt w' h ⟨wv, sv, at_, t, b, v, won⟩) :
    St w' base d h P c wv hs { S with at_ := at_, t := t, b := b, v := v, won := won } sv :=
  ⟨H.dd.kept hg (fun e => H.ndh (Option.some.inj e)), hd, H.pp.kept hg (fun e => H.nhP (Option.some.inj e).symm), own_row_ne (S := S) H.own hg (fun g hg' e => H.noh g hg' (Option.some.inj e)), Nat.le_trans H.hb hg.size⟩
theorem St.setAt (H : St w base d h P c wv hs S sv) (n : Int) : St (w.setCell ⟨h, 2, none⟩ (i64 n)) base d h P c wv hs { S with at_ := n } sv := H.turnH (grown_set w ⟨h, 2, none⟩ _) (H.hh.set2 n)
theorem St.setT (H : St w base d h P c wv hs S sv) (n : Int) : St (w.setCell ⟨h, 3, none⟩ (i64 n)) base d h P c wv hs { S with t := n } sv := H.turnH (grown_set w ⟨h, 3, none⟩ _) (H.hh.set3 n)
theorem St.setB (H : St w base d h P c wv hs S sv) (n : Int) : St (w.setCell ⟨h, 4, none⟩ (i64 n)) base d h P c wv hs { S with b := n } sv := H.turnH (grown_set w ⟨h, 4, none⟩ _) (H.hh.set4 n)
theorem St.setV (H : St w base d h P c wv hs S sv) (n : Int) : St (w.setCell ⟨h, 5, none⟩ (i64 n)) base d h P c wv hs { S with v := n } sv := H.turnH (grown_set w ⟨h, 5, none⟩ _) (H.hh.set5 n)
theorem St.setWon (H : St w base d h P c wv hs S sv) (n : Bool) : St (w.setCell ⟨h, 6, none⟩ (.bool n)) base d h P c wv hs { S with won := n } sv := H.turnH (grown_set w ⟨h, 6, none⟩ _) (H.hh.set6 n)
theorem St.cd0 (H : St w base d h P c wv hs S sv) : w.cell? ⟨d, 0, none⟩ = some (i64 S.top) := cell_of_row w d 0 _ _ _ H.dd
theorem St.cd1 (H : St w base d h P c wv hs S sv) : w.cell? ⟨d, 1, none⟩ = some (i64 S.bottom) := cell_of_row w d 1 _ _ _ H.dd
theorem St.cd2 (H : St w base d h P c wv hs S sv) : w.cell? ⟨d, 2, none⟩ = some (.slice (some ⟨P, 0, none⟩) S.pl.length c) := cell_of_row w d 2 _ _ _ H.dd
theorem St.ch2 (H : St w base d h P c wv hs S sv) : w.cell? ⟨h, 2, none⟩ = some (i64 S.at_) := cell_of_row w h 2 _ _ _ H.hh
theorem St.ch3 (H : St w base d h P c wv hs S sv) : w.cell? ⟨h, 3, none⟩ = some (i64 S.t) := cell_of_row w h 3 _ _ _ H.hh
theorem St.ch4 (H : St w base d h P c wv hs S sv) : w.cell? ⟨h, 4, none⟩ = some (i64 S.b) := cell_of_row w h 4 _ _ _ H.hh
theorem St.ch5 (H : St w base d h P c wv hs S sv) : w.cell? ⟨h, 5, none⟩ = some (i64 S.v) := cell_of_row w h 5 _ _ _ H.hh
theorem St.ch6 (H : St w base d h P c wv hs S sv) : w.cell? ⟨h, 6, none⟩ = some (.bool S.won) := cell_of_row w h 6 _ _ _ H.hh
theorem St.fh (H : St w base d h P c wv hs S sv) (i : Nat) : w.frozen? ⟨h, i, none⟩ = false := frozen_of_row w h i _ _ H.hh

abbrev SS.inc (S : SS) : SS := { S with count := wrap64 (S.count + 1) }
def SS.says (S : SS) (ok : Bool) (v : Int) : SS := { S with said := S.said ++ [(ok, if ok then v else 0)], at_ := 0 }

theorem own_only {e : TypeId} {size n : Nat} {xs : List Value} {v : Value} {B : List (Option Nat)} (h : w.ownsRow base e size v n xs) (ho : Only B w w') (hn : ∀ g, v.ownBlock = some g → some g ∉ B) : w'.ownsRow base e size v n xs := by
  refine ⟨h.1, ?_⟩
  rcases h.2 with hn' | ⟨g, cap, cur, rfl, hge, hg, rest⟩
  · exact .inl hn'
  · exact .inr ⟨g, cap, cur, rfl, hge, (ho.block g (Array.getElem?_eq_some_iff.1 hg).1 (hn g rfl)).trans hg, rest⟩
theorem readTop_st (H : St w base d h P c wv hs S sv) :
    Calls Try.prog 50 #[.pointer (some ⟨d, 0, none⟩)] w fun e w' => e = .returned (i64 S.top) ∧ St w' base d h P c wv hs S.inc sv ∧ Only [some d] w w' :=
  (readTop_any d _ w H.dd).mono fun e w' ⟨he, hd, hg⟩ => ⟨he, H.turnD hg hd, Only.grown hg⟩
theorem readBottom_st (H : St w base d h P c wv hs S sv) :
    Calls Try.prog 56 #[.pointer (some ⟨d, 0, none⟩)] w fun e w' => e = .returned (i64 S.bottom) ∧ St w' base d h P c wv hs S.inc sv ∧ Only [some d] w w' :=
  (readBottom_any d _ w H.dd).mono fun e w' ⟨he, hd, hg⟩ => ⟨he, H.turnD hg hd, Only.grown hg⟩
theorem setBottom_st (H : St w base d h P c wv hs S sv) (n : Int) :
    Calls Try.prog 53 #[.pointer (some ⟨d, 0, none⟩), i64 n] w fun e w' => e = .returned (.tuple #[]) ∧ St w' base d h P c wv hs { S.inc with bottom := n } sv ∧ Only [some d] w w' :=
  (setBottom_any d _ n w H.dd).mono fun e w' ⟨he, hd, hg⟩ => ⟨he, H.turnD hg hd, Only.grown hg⟩
theorem swapTop_st (H : St w base d h P c wv hs S sv) (n : Int) (T : Int) (hT : T = if S.top = n then wrap64 (S.top + 1) else S.top) (b : Bool) (hb : b = decide (S.top = n)) :
    Calls Try.prog 55 #[.pointer (some ⟨d, 0, none⟩), i64 n] w fun e w' => e = .returned (.bool b) ∧ St w' base d h P c wv hs { S.inc with top := T } sv ∧ Only [some d] w w' :=
  (swapTop_any d _ n w H.dd T hT b hb).mono fun e w' ⟨he, hd, hg⟩ => ⟨he, H.turnD hg hd, Only.grown hg⟩
theorem get_st (H : St w base d h P c wv hs S sv) (n : Int) (h0 : 0 ≤ n) (hl : 0 < S.pl.length) (hl2 : S.pl.length ≤ 256) :
    Calls Try.prog 54 #[.pointer (some ⟨d, 0, none⟩), i64 n] w fun e w' => e = .returned (i64 (getP S.pl n)) ∧ St w' base d h P c wv hs S.inc sv ∧ Only [some d] w w' :=
  (get_any d _ P c S.pl n w H.dd H.pp H.ndP rfl h0 hl hl2).mono fun e w' ⟨he, hd, hg⟩ => ⟨he, H.turnD hg hd, Only.grown hg⟩
theorem putP_len (pl : List Int) (n v : Int) : (putP pl n v).length = pl.length := by simp [putP]
theorem put_st (H : St w base d h P c wv hs S sv) (n v : Int) (h0 : 0 ≤ n) (hl : 0 < S.pl.length) (hl2 : S.pl.length ≤ 256) :
    Calls Try.prog 52 #[.pointer (some ⟨d, 0, none⟩), i64 n, i64 v] w fun e w' => e = .returned (.tuple #[]) ∧ St w' base d h P c wv hs { S.inc with pl := putP S.pl n v } sv ∧ Only [some d, some P] w w' := by
  refine (put_any d _ P c S.pl n v w H.dd H.pp H.ndP rfl h0 hl hl2).mono fun e w' ⟨he, hd, hp, ho⟩ => ⟨he, ⟨?_, ?_, hp, ?_, Nat.le_trans H.hb ho.size⟩, ho⟩
  · show DAt w' d ⟨_, _, .slice _ (putP S.pl n v).length c, _, _⟩
    rw [putP_len]; exact hd
  · exact (ho.block h H.hh.lt (by simp; exact ⟨fun e => H.ndh e.symm, H.nhP⟩)).trans H.hh
  · exact own_only H.own ho (fun g hg hm => by
      simp at hm
      rcases hm with h | h
      · exact H.nod g hg h
      · exact H.noP g hg h)
theorem place_st (H : St w base d h P c wv hs S sv) (n : Int) (h0 : 0 ≤ n) (hl : 0 < S.pl.length) (hl2 : S.pl.length ≤ 256) :
    Calls Try.prog 42 #[.pointer (some ⟨d, 0, none⟩), i64 n] w fun e w' => e = .returned (.pointer (some ⟨P, slot S.pl n, none⟩)) ∧ ∃ q, w' = w.drewN q := place_any d _ P c S.pl n w H.dd rfl h0 hl hl2
theorem St.cP (H : St w base d h P c wv hs S sv) (n : Int) (hl : 0 < S.pl.length) : w.cell? ⟨P, slot S.pl n, none⟩ = some (i64 (getP S.pl n)) := by
  have hs := slot_lt S.pl n hl
  rw [H.pp.cell _ hs]; simp [getP, List.getD_eq_getElem?_getD, hs]
theorem says_st (H : St w base d h P c wv hs S sv) (ok : Bool) (v : Int) (hl : S.said.length ≤ 1000000) :
    Calls Try.prog 51 #[.pointer (some ⟨h, 0, none⟩), .bool ok, i64 v] w fun e w' => e = .returned (.tuple #[]) ∧ ∃ sv', St w' base d h P c wv hs (S.says ok v) sv' ∧ Only [some h, sv.ownBlock] w w' ∧ Stayed w sv sv' := by
  refine (says_any h _ base S.said ok v w H.hh H.own H.hb hl _ rfl).mono fun e w' ⟨he, sv', hh', ho', on, hst⟩ => ⟨he, sv', ⟨?_, hh', ?_, ?_, Nat.le_trans H.hb on.size⟩, on, hst⟩
  · exact (on.block d H.dd.lt (by simp; exact ⟨H.ndh, fun e => H.nod d e.symm rfl⟩)).trans H.dd
  · exact (on.block P (Array.getElem?_eq_some_iff.1 H.pp).1 (by simp; exact ⟨fun e => H.nhP e.symm, fun e => H.noP P e.symm rfl⟩)).trans H.pp
  · simpa [SS.says] using ho'
end Go.Proofs.Ytpgdpddmgljpmaa
