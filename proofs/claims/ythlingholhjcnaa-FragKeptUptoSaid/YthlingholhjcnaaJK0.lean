/-
  FragKept: the plain laws: as many pieces behind a Join as ahead; a file's pieces stand in the order of their lines.
-/
import Derived.Test.YthlingholhjcnaaJG3
namespace Go.Proofs.Ythlingholhjcnaa
open Go.RowKit
variable {W W' w w' : World}
def pz (l : List Pt) : Nat := (l.map (fun p => p.pieces.length)).sum
theorem pz_modify : ∀ (l : List Pt) (i : Nat) (a : List Pc), i < l.length → pz (l.modify i (appPcs a)) = pz l + a.length
  | [], i, a, h => by simp at h
  | p :: l, 0, a, _ => by rw [List.modify_zero_cons]; simp [pz, appPcs]; omega
  | p :: l, i + 1, a, h => by have := pz_modify l i a (by simpa using h); rw [List.modify_succ_cons]; simp [pz] at this ⊢; omega
theorem pz_jp (S : FP) (p : Pt) : pz (S.joinPart p).1.ps = pz S.ps + p.pieces.length := by
  unfold FP.joinPart FP.part
  cases e : idxO (S.ps.map Pt.name) p.name with
  | some i => have := idx_lt e; exact pz_modify S.ps i p.pieces (by simpa using this)
  | none =>
    have := pz_modify (S.ps ++ [(⟨p.name, p.file, p.line, []⟩ : Pt)]) S.ps.length p.pieces (by simp)
    have e : pz (S.ps ++ [(⟨p.name, p.file, p.line, []⟩ : Pt)]) = pz S.ps := by simp [pz]
    dsimp only [FP.putAll]
    omega
theorem pz_jps (l : List Pt) : ∀ s : FP × List Nat × List Nat, pz (joinParts s l).1.ps = pz s.1.ps + pz l := by
  induction l with
  | nil => intro s; rfl
  | cons p l ih =>
    intro s
    have h1 := ih (jpStep s p)
    have h2 := pz_jp s.1 p
    have e : pz (p :: l) = p.pieces.length + pz l := by simp [pz]
    have e2 : (jpStep s p).1.ps = (s.1.joinPart p).1.ps := rfl
    rw [e2] at h1
    show pz (joinParts (jpStep s p) l).1.ps = _
    omega
theorem pz_ju (S U : FP) : pz (S.joinUnit U).ps = pz S.ps + pz U.ps := pz_jps U.ps (S, [], [])
theorem pz_pl (l : List PtR) : pz (l.map PtR.pl) = pcSum l := by
  unfold pz pcSum
  rw [List.map_map]
  congr 1
  exact List.map_congr_left (fun y _ => by simp [PtR.pl])
theorem pz_join (l : List UnR) : pz (joinP (l.map UnR.pl)).ps = unPcs l := by
  have key : ∀ (l : List UnR) (S : FP), pz ((l.map UnR.pl).foldl FP.joinUnit S).ps = pz S.ps + unPcs l := by
    intro l
    induction l with
    | nil => intro S; rfl
    | cons u l ih =>
      intro S
      have h1 := ih (S.joinUnit u.pl)
      have h2 := pz_ju S u.pl
      have h3 : pz u.pl.ps = pcSum u.parts.l := pz_pl _
      have e : unPcs (u :: l) = pcSum u.parts.l + unPcs l := by simp [unPcs]
      rw [List.map_cons, List.foldl_cons]
      omega
  have := key l FP.nil
  unfold joinP
  rw [this]
  show 0 + _ = _
  omega
/-- Each part's pieces stand in the order of their lines, none behind line L. -/
def LineOk (l : List Pt) (L : Int) : Prop := ∀ p ∈ l, (p.pieces.map Pc.line).Pairwise (· ≤ ·) ∧ ∀ x ∈ p.pieces, x.line ≤ L
theorem LineOk.mono {l : List Pt} {L M : Int} (h : LineOk l L) (hm : L ≤ M) : LineOk l M := fun p hp => ⟨(h p hp).1, fun x hx => Int.le_trans ((h p hp).2 x hx) hm⟩
theorem LineOk.part {S : FP} {L : Int} (h : LineOk S.ps L) (file line : Int) (name : ByteArray) : LineOk (S.part file line name).1.ps L := by
  unfold FP.part
  split
  · exact h
  · intro p hp
    rcases List.mem_append.1 hp with h1 | h1
    · exact h p h1
    · rw [List.mem_singleton.1 h1]; exact ⟨List.Pairwise.nil, fun x hx => by cases hx⟩
theorem LineOk.put {S : FP} {L : Int} (h : LineOk S.ps L) (file : Int) (name : ByteArray) (x : Pc) (zero : Bool) : LineOk (S.put file L name x zero).ps L := by
  unfold FP.put
  split
  · exact h
  · have h1 := h.part file L name
    intro p hp
    dsimp only at hp
    obtain ⟨i, hi⟩ := List.getElem?_of_mem hp
    rw [List.getElem?_modify] at hi
    by_cases e : (S.part file L name).2 = i
    · simp only [if_pos e] at hi
      cases e2 : (S.part file L name).1.ps[i]? with
      | none => rw [e2] at hi; cases hi
      | some q =>
        rw [e2] at hi
        cases hi
        have h2 := h1 q (List.mem_of_getElem? e2)
        refine ⟨?_, fun y hy => ?_⟩
        · show ((q.pieces ++ [{ x with file := file, line := L }]).map Pc.line).Pairwise _
          rw [List.map_append, List.pairwise_append]
          refine ⟨h2.1, by simp, fun a ha b hb => ?_⟩
          obtain ⟨z, hz, rfl⟩ := List.mem_map.1 ha
          simp at hb
          subst hb
          exact h2.2 z hz
        · rcases List.mem_append.1 (show y ∈ q.pieces ++ [_] from hy) with h3 | h3
          · exact h2.2 y h3
          · rw [List.mem_singleton.1 h3]; exact Int.le_refl _
    · simp only [if_neg e] at hi
      cases e2 : (S.part file L name).1.ps[i]? with
      | none => rw [e2] at hi; cases hi
      | some q => rw [e2] at hi; cases hi; exact h1 q (List.mem_of_getElem? e2)
theorem LineOk.mark {S : FP} {L : Int} (h : LineOk S.ps L) (file : Int) (name nm : ByteArray) (equ : Bool) (v : Vv) : LineOk (S.mark file L name nm equ v).ps L := by
  unfold FP.mark
  split
  · exact h
  · exact h.part file L name
theorem LineOk.foldl {α : Type} {L : Int} (f : FP → α → FP) (hf : ∀ S a, LineOk S.ps L → LineOk (f S a).ps L) (l : List α) : ∀ S : FP, LineOk S.ps L → LineOk (l.foldl f S).ps L := by
  induction l with
  | nil => exact fun _ h => h
  | cons a l ih => exact fun S h => ih _ (hf S a h)
theorem LineOk.stmt {S : FP} {L : Int} (h : LineOk S.ps L) (file : Int) (name : ByteArray) (s : StR) : LineOk (S.stmt file L name s).1.ps L := by
  unfold FP.stmt
  split
  · exact h.put _ _ _ _
  split
  · exact h.put _ _ _ _
  split
  · exact LineOk.foldl _ (fun S a hS => hS.put _ _ _ _) _ _ h
  split
  · exact h.put _ _ _ _
  split
  · split
    · exact h
    · exact h.part _ _ _
  split
  · exact h.mark _ _ _ _ _
  split
  · refine LineOk.foldl _ (fun S a hS => ?_) _ _ h
    unfold FP.told1
    split <;> exact hS
  · exact h
theorem LineOk.row {q : FP × ByteArray} {L : Int} (h : LineOk q.1.ps L) (file : Int) (r : RwR) (hr : L ≤ r.line) : LineOk (FP.row file q r).1.ps r.line := by
  unfold FP.row
  refine LineOk.stmt ?_ _ _ _
  exact LineOk.foldl _ (fun S a hS => hS.mark _ _ _ _ _) _ _ (h.mono hr)
/-- A file's pieces. -/
theorem rows_sorted (file : Int) (l : List RwR) (hs : ∀ i (h : i + 1 < l.length), l[i].line ≤ l[i + 1].line) : ∀ p ∈ (FP.rows file l).1.ps, (p.pieces.map Pc.line).Pairwise (· ≤ ·) := by
  have key : ∀ (l : List RwR) (q : FP × ByteArray) (L : Int), LineOk q.1.ps L → (∀ h : 0 < l.length, L ≤ l[0].line) → (∀ i (h : i + 1 < l.length), l[i].line ≤ l[i + 1].line) → ∃ M, LineOk (l.foldl (FP.row file) q).1.ps M := by
    intro l
    induction l with
    | nil => exact fun q L h _ _ => ⟨L, h⟩
    | cons r l ih =>
      intro q L h h0 h1
      refine ih _ r.line (h.row file r (h0 (by simp))) (fun hl => ?_) (fun i hi => ?_)
      · have := h1 0 (by simpa using hl); simpa using this
      · have := h1 (i + 1) (by simp; omega); simpa using this
  cases l with
  | nil => intro p hp; exact absurd hp (by simp [FP.rows])
  | cons r l =>
    obtain ⟨M, hM⟩ := key (r :: l) (⟨[], [], [], []⟩, text0) r.line (fun p hp => by cases hp) (fun _ => Int.le_refl _) hs
    exact fun p hp => (hM p hp).1
/-- Less on faults of lines alone. -/
theorem less_line (a b : Int) (h : a ≤ b) (W : World) : Calls Try.prog 18 #[.agg #[.int .i64 0, .int .i64 b, .int .i64 0], .agg #[.int .i64 0, .int .i64 a, .int .i64 0]] W fun e w' => e = .returned (.bool false) ∧ Below W.heap.size W w' := by
  by_cases e : b = a
  · have e1 : (b != a) = false := by simp [e]
    have HE := hid e
    go_enter Try.func18, Try.ntmps18
    go_wp2
    go_ret
    exact ⟨rfl, ((Below.refl _ _).alloc (Nat.le_refl _) _).alloc (by simp) _⟩
  · have e1 : (b != a) = true := by simp [e]
    have e2 : decide (b < a) = false := by simp; omega
    go_enter Try.func18, Try.ntmps18
    go_wp2
    go_ret
    refine ⟨?_, ((Below.refl _ _).alloc (Nat.le_refl _) _).alloc (by simp) _⟩
    first | rfl | (simp; omega)
end Go.Proofs.Ythlingholhjcnaa
