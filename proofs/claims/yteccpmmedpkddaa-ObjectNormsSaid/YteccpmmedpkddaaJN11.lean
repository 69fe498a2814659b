/-
  Objects whose symbols are put in order: plain; stores into an object of the call's own.
  Between two steps of either Norm.
-/
import Derived.Test.YteccpmmedpkddaaJN10
namespace Go.Proofs.Yteccpmmedpkddaa
open Go.RowKit
variable {W w w' : World} {B k : Nat} {secs : List Sc} {syms : List Sy} {sv yv : Value}
/-! ### Plain -/
/-- The symbols in order. -/
def nsyms (l : List Sy) : List Sy := (ordP l).map (atSy l)
/-- A relocation whose symbol's number is the new one. -/
def nrel (l : List Sy) (r : Rl) : Rl := if 0 ≤ r.sym ∧ r.sym < l.length then { r with sym := (((ordP l).idxOf r.sym.toNat : Nat) : Int) } else r
def nsec (l : List Sy) (c : ScC) : ScC := { c with rel := c.rel.map (nrel l) }
/-- What Norm makes of what an object holds. -/
def normC (c : List ScC × List Sy) : List ScC × List Sy := (c.1.map (nsec c.2), nsyms c.2)
theorem ordP_len (l : List Sy) : (ordP l).length = l.length := by simpa using (ordP_perm l).length_eq
theorem ordP_lt (l : List Sy) : ∀ q ∈ ordP l, q < l.length := fun q hq => List.mem_range.1 ((ordP_perm l).subset hq)
theorem ordP_mem (l : List Sy) (q : Nat) (h : q < l.length) : q ∈ ordP l := (ordP_perm l).mem_iff.2 (List.mem_range.2 h)
theorem ordP_nodup (l : List Sy) : (ordP l).Nodup := (ordP_perm l).nodup_iff.2 List.nodup_range
theorem nsyms_len (l : List Sy) : (nsyms l).length = l.length := by unfold nsyms; rw [List.length_map, ordP_len]
/-- The numbers' places, as far as they are known. -/
def PlOk (ps : List Nat) (k : Nat) (P : List Nat) : Prop := P.length = ps.length ∧ ∀ i, i < k → ∀ q, ps[i]? = some q → P[q]? = some i
theorem PlOk.zero (ps : List Nat) : PlOk ps 0 (List.replicate ps.length 0) := ⟨by simp, fun i h => absurd h (Nat.not_lt_zero _)⟩
theorem PlOk.set {ps P : List Nat} {k q : Nat} (h : PlOk ps k P) (hn : ps.Nodup) (hq : ps[k]? = some q) (hl : q < ps.length) : PlOk ps (k + 1) (P.set q k) := by
  refine ⟨by rw [List.length_set]; exact h.1, fun i hi q' hq' => ?_⟩
  by_cases e : i = k
  · subst e
    rw [hq] at hq'; cases hq'
    rw [List.getElem?_set_self (by rw [h.1]; exact hl)]
  · have hne : q ≠ q' := fun e2 => by
      subst e2
      obtain ⟨h1, e1⟩ := List.getElem?_eq_some_iff.1 hq
      obtain ⟨h2, e3⟩ := List.getElem?_eq_some_iff.1 hq'
      have hp := List.pairwise_iff_getElem.1 hn
      rcases Nat.lt_trichotomy i k with hlt | heq | hgt
      · exact hp i k h2 h1 hlt (e3.trans e1.symm)
      · exact e heq
      · exact hp k i h1 h2 hgt (e1.trans e3.symm)
    rw [List.getElem?_set_ne hne]
    exact h.2 i (by omega) q' hq'
theorem PlOk.all {l : List Sy} {P : List Nat} (h : PlOk (ordP l) l.length P) (q : Nat) (hq : q < l.length) : P[q]? = some ((ordP l).idxOf q) := by
  have hm := ordP_mem l q hq
  have hi : (ordP l).idxOf q < (ordP l).length := List.idxOf_lt_length_iff.2 hm
  refine h.2 _ (by rw [ordP_len] at hi; exact hi) q ?_
  rw [List.getElem?_eq_getElem hi, List.getElem_idxOf hi]
theorem put_at {α : Type} (a b : List α) (k : Nat) (hl : a.length = b.length) (hk : k < a.length) : (a.take k ++ b.drop k).set k a[k] = a.take (k + 1) ++ b.drop (k + 1) := by
  have e1 : (a.take k).length = k := by simp; omega
  rw [List.set_append_right _ _ (by omega), e1, Nat.sub_self, List.take_add_one, List.getElem?_eq_getElem hk, Option.toList_some, List.drop_eq_getElem_cons (show k < b.length by omega), List.set_cons_zero, List.append_assoc]
  rfl
/-! ### Stores -/
theorem FrS.base {B2 : Nat} {s : Sc} (h : FrS B w s) (hb : B2 ≤ B) : FrS B2 w s := ⟨own_base h.data hb, own_base h.rel hb⟩
theorem FrV.base {B2 : Nat} (h : FrV B w sv yv secs syms k) (hb : B2 ≤ B) : FrV B2 w sv yv secs syms k := ⟨own_base h.os hb, own_base h.oy hb, fun i s hi hs => (h.each i s hi hs).base hb, h.ap⟩
theorem flat_same {α : Type} (f : α → List Value) : ∀ (l : List α) (i : Nat) (x y : α), l[i]? = some x → f y = f x → (l.set i y).flatMap f = l.flatMap f
  | [], _, _, _, h, _ => by simp at h
  | a :: l, 0, x, y, h, e => by simp at h; subst h; simp [e]
  | a :: l, i + 1, x, y, h, e => by simp at h; simp [flat_same f l i x y h e]
/-- A relocation's symbol is stored. -/
theorem FrV.setR (h : FrV B w sv yv secs syms k) (hB : B ≤ w.heap.size) {i : Nat} {s : Sc} (hs : secs[i]? = some s) (hi : i < k) {g : Nat} (hrp : s.rp = some ⟨g, 0, none⟩) {q : Nat} {r : Rl} (hq : s.rel[q]? = some r) (v : Int) :
    FrV B (w.setCell ⟨g, q * 4 + 2, none⟩ (.int .i64 v)) sv yv (secs.set i { s with rel := s.rel.set q { r with sym := v } }) syms k ∧ w.grownBy (w.setCell ⟨g, q * 4 + 2, none⟩ (.int .i64 v)) (some g) := by
  have hf := h.each i s hi hs
  have hil : i < secs.length := (List.getElem?_eq_some_iff.1 hs).1
  have hrel := hf.rel
  have hrv : rV s = .slice (some ⟨g, 0, none⟩) s.rel.length s.rc := by unfold rV; rw [hrp]
  rw [hrv] at hrel
  have hg : w.grownBy (w.setCell ⟨g, q * 4 + 2, none⟩ (.int .i64 v)) (some g) := grown_set w ⟨g, q * 4 + 2, none⟩ _
  have hl : Lies B (fun x => x ≠ 54 + 1) w (w.setCell ⟨g, q * 4 + 2, none⟩ (.int .i64 v)) := Lies.grown hg (fun a e => by cases e; exact ⟨own_tag hrel rfl, own_ge hrel g rfl⟩) (fun hn => hn rfl) hB
  have hnew := (World.ownsRow.stored hrel (q * 4 + 2) (.int .i64 v)).1
  rw [set_flat Rl.cells 4 (fun _ => rfl) s.rel q 2 r (.int .i64 v) hq (by decide) { r with sym := v } rfl] at hnew
  have hlen : (s.rel.set q { r with sym := v }).length = s.rel.length := List.length_set
  have hd' : dV { s with rel := s.rel.set q { r with sym := v } } = dV s := rfl
  have hr' : rV { s with rel := s.rel.set q { r with sym := v } } = rV s := by unfold rV; simp
  have hget : ∀ (j : Nat) (t : Sc), (secs.set i { s with rel := s.rel.set q { r with sym := v } })[j]? = some t → (j = i ∧ t = { s with rel := s.rel.set q { r with sym := v } }) ∨ (j ≠ i ∧ secs[j]? = some t) := fun j t ht => by
    by_cases e : j = i
    · subst e; rw [List.getElem?_set_self hil] at ht; exact .inl ⟨rfl, (Option.some.inj ht).symm⟩
    · rw [List.getElem?_set_ne (fun e2 => e e2.symm)] at ht; exact .inr ⟨e, ht⟩
  refine ⟨⟨?_, hl.own h.oy (by decide), fun j t hj ht => ?_, fun a b t u hab ha hb ht hu => ?_⟩, hg⟩
  · rw [List.length_set, flat_same Sc.cells secs i s _ hs (by simp [Sc.cells])]
    exact hl.own h.os (by decide)
  · rcases hget j t ht with ⟨rfl, rfl⟩ | ⟨hne, ht2⟩
    · refine ⟨hl.own hf.data (by decide), ?_⟩
      show World.ownsRow _ B _ 4 (rV { s with rel := s.rel.set q { r with sym := v } }) (s.rel.set q { r with sym := v }).length _
      rw [hr', hlen, hrv]; exact hnew
    · have ht3 := h.each j t hj ht2
      refine ⟨hl.own ht3.data (by decide), own_setO ht3.rel _ _ (fun a e => ?_)⟩
      have := (h.ap j i t s hne hj hi ht2 hs).2 a e
      rw [hrv] at this
      intro e2; apply this; rw [e2]; rfl
  · rcases hget a t ht with ⟨rfl, rfl⟩ | ⟨hne, ht2⟩ <;> rcases hget b u hu with ⟨rfl, rfl⟩ | ⟨hne2, hu2⟩
    · exact absurd rfl hab
    · rw [hd', hr']; exact h.ap _ _ _ _ hab ha hb hs hu2
    · rw [hd', hr']; exact h.ap _ _ _ _ hab ha hb ht2 hs
    · exact h.ap _ _ _ _ hab ha hb ht2 hu2
/-- A symbol is stored. -/
theorem FrV.putY {gy m cy : Nat} (h : FrV B w sv (.slice (some ⟨gy, 0, none⟩) m cy) secs syms k) (hm : m = syms.length) (hB : B ≤ w.heap.size) {i : Nat} (hi : i < syms.length) (x : Sy) :
    FrV B ((((w.setCell ⟨gy, i * 4, none⟩ (.string x.name)).setCell ⟨gy, i * 4 + 1, none⟩ (.int .i64 x.sec)).setCell ⟨gy, i * 4 + 2, none⟩ (.int .i64 x.val)).setCell ⟨gy, i * 4 + 3, none⟩ (.bool x.glob)) sv (.slice (some ⟨gy, 0, none⟩) m cy) secs (syms.set i x) k ∧
      w.grownBy ((((w.setCell ⟨gy, i * 4, none⟩ (.string x.name)).setCell ⟨gy, i * 4 + 1, none⟩ (.int .i64 x.sec)).setCell ⟨gy, i * 4 + 2, none⟩ (.int .i64 x.val)).setCell ⟨gy, i * 4 + 3, none⟩ (.bool x.glob)) (some gy) := by
  subst hm
  obtain ⟨y, hy⟩ : ∃ y, syms[i]? = some y := ⟨_, List.getElem?_eq_getElem hi⟩
  have h1 := World.ownsRow.stored h.oy (i * 4) (.string x.name)
  have h2 := World.ownsRow.stored h1.1 (i * 4 + 1) (.int .i64 x.sec)
  have h3 := World.ownsRow.stored h2.1 (i * 4 + 2) (.int .i64 x.val)
  have h4 := World.ownsRow.stored h3.1 (i * 4 + 3) (.bool x.glob)
  have hg := ((h1.2.trans h2.2).trans h3.2).trans h4.2
  have hl : Lies B (fun x => x ≠ 36 + 1) w _ := Lies.grown hg (fun a e => by cases e; exact ⟨own_tag h.oy rfl, own_ge h.oy gy rfl⟩) (fun hn => hn rfl) hB
  refine ⟨⟨hl.own h.os (by decide), ?_, fun j t hj ht => ⟨hl.own (h.each j t hj ht).data (by decide), hl.own (h.each j t hj ht).rel (by decide)⟩, h.ap⟩, hg⟩
  have e1 := set_flat Sy.cells 4 (fun _ => rfl) syms i 0 y (.string x.name) hy (by decide) { y with name := x.name } rfl
  have y1 : (syms.set i { y with name := x.name })[i]? = some { y with name := x.name } := List.getElem?_set_self hi
  have e2 := set_flat Sy.cells 4 (fun _ => rfl) _ i 1 _ (.int .i64 x.sec) y1 (by decide) { y with name := x.name, sec := x.sec } rfl
  rw [List.set_set] at e2
  have y2 : (syms.set i { y with name := x.name, sec := x.sec })[i]? = some { y with name := x.name, sec := x.sec } := List.getElem?_set_self hi
  have e3 := set_flat Sy.cells 4 (fun _ => rfl) _ i 2 _ (.int .i64 x.val) y2 (by decide) { y with name := x.name, sec := x.sec, val := x.val } rfl
  rw [List.set_set] at e3
  have y3 : (syms.set i { y with name := x.name, sec := x.sec, val := x.val })[i]? = some { y with name := x.name, sec := x.sec, val := x.val } := List.getElem?_set_self hi
  have e4 := set_flat Sy.cells 4 (fun _ => rfl) _ i 3 _ (.bool x.glob) y3 (by decide) x rfl
  rw [List.set_set] at e4
  have := h4.1
  rw [show i * 4 = i * 4 + 0 from rfl, e1, e2, e3, e4] at this
  rw [List.length_set]
  exact this
end Go.Proofs.Yteccpmmedpkddaa
namespace Go.Proofs.Yteccpmmedpkddaa
open Go.RowKit
variable {W w w' : World} {B k : Nat} {secs : List Sc} {sv yv lv pv : Value} {Y : List Sy} {P : List Nat} {g lT lsz ln : Nat} {lcs : List Value}
/-- The new object, a row that is read, the numbers' places. -/
structure NmA (B : Nat) (W : World) (g lT lsz ln : Nat) (lcs : List Value) (sv yv lv pv : Value) (secs : List Sc) (Y : List Sy) (P : List Nat) (w : World) : Prop where
  fr : FrV B w sv yv secs Y secs.length
  box : w.heap[g]? = some (.cells #[sv, yv] 25 (0, 0))
  lr : w.ownsRow B lT lsz lv ln lcs
  pr : w.ownsRow B 3 1 pv P.length (P.map nat64)
  ap : Apart lv pv
  gB : B ≤ g
  b : Below B W w
  WB : W.heap.size = B
  lt : lT ≠ 36 ∧ lT ≠ 54
theorem NmA.sz (h : NmA B W g lT lsz ln lcs sv yv lv pv secs Y P w) : B ≤ w.heap.size := by have := h.b.size; rw [h.WB] at this; exact this
theorem NmA.below (h : NmA B W g lT lsz ln lcs sv yv lv pv secs Y P w) (hb : Below w.heap.size w w') : NmA B W g lT lsz ln lcs sv yv lv pv secs Y P w' :=
  ⟨h.fr.below h.sz hb, (hb.block _ (Array.getElem?_eq_some_iff.1 h.box).1).trans h.box, own_below h.lr hb, own_below h.pr hb, h.ap, h.gB, h.b.trans (hb.mono h.sz), h.WB, h.lt⟩
theorem NmA.box_ne (h : NmA B W g lT lsz ln lcs sv yv lv pv secs Y P w) {q T : Nat} (ht : tagAt w q = some (T + 1)) (hT : T ≠ 25) : g ≠ q := fun e => by
  subst e
  have := tag_row h.box
  rw [ht] at this; injection this with this; injection this with this; exact hT this
/-- A symbol is stored. -/
theorem NmA.putY {gy m cy : Nat} (h : NmA B W g lT lsz ln lcs sv (.slice (some ⟨gy, 0, none⟩) m cy) lv pv secs Y P w) (hm : m = Y.length) {i : Nat} (hi : i < Y.length) (x : Sy) :
    NmA B W g lT lsz ln lcs sv (.slice (some ⟨gy, 0, none⟩) m cy) lv pv secs (Y.set i x) P ((((w.setCell ⟨gy, i * 4, none⟩ (.string x.name)).setCell ⟨gy, i * 4 + 1, none⟩ (.int .i64 x.sec)).setCell ⟨gy, i * 4 + 2, none⟩ (.int .i64 x.val)).setCell ⟨gy, i * 4 + 3, none⟩ (.bool x.glob)) := by
  obtain ⟨hf, hg⟩ := h.fr.putY hm h.sz hi x
  have ht := own_tag h.fr.oy rfl
  refine ⟨hf, (hg.block g (Array.getElem?_eq_some_iff.1 h.box).1 (fun e => h.box_ne ht (by decide) (by cases e; rfl))).trans h.box, h.lr.kept hg ?_, h.pr.kept hg ?_, h.ap, h.gB, h.b.grown hg h.sz (fun q e => by cases e; exact own_ge h.fr.oy gy rfl), h.WB, h.lt⟩
  · cases e : lv.ownBlock with
    | none => exact .inl rfl
    | some q => exact .inr (fun e2 => tag_ne (own_tag h.lr e) ht (by have := h.lt.1; omega) (by cases e2; rfl))
  · cases e : pv.ownBlock with
    | none => exact .inl rfl
    | some q => exact .inr (fun e2 => tag_ne (own_tag h.pr e) ht (by decide) (by cases e2; rfl))
/-- A number's place is stored. -/
theorem NmA.setP {gp m cp : Nat} (h : NmA B W g lT lsz ln lcs sv yv lv (.slice (some ⟨gp, 0, none⟩) m cp) secs Y P w) (hm : m = P.length) {q : Nat} (hq : q < P.length) (v : Nat) :
    NmA B W g lT lsz ln lcs sv yv lv (.slice (some ⟨gp, 0, none⟩) m cp) secs Y (P.set q v) (w.setCell ⟨gp, q, none⟩ (nat64 v)) := by
  subst hm
  have hg := grown_set w ⟨gp, q, none⟩ (nat64 v)
  have ht := own_tag h.pr rfl
  have hl : Lies B isO w (w.setCell ⟨gp, q, none⟩ (nat64 v)) := Lies.grown hg (fun a e => by cases e; exact ⟨ht, own_ge h.pr gp rfl⟩) (by unfold isO; decide) h.sz
  refine ⟨h.fr.lies hl, (hg.block g (Array.getElem?_eq_some_iff.1 h.box).1 (fun e => h.box_ne ht (by decide) (by cases e; rfl))).trans h.box, h.lr.kept hg ?_, ?_, h.ap, h.gB, h.b.grown hg h.sz (fun q e => by cases e; exact own_ge h.pr gp rfl), h.WB, h.lt⟩
  · cases e : lv.ownBlock with
    | none => exact .inl rfl
    | some a => exact .inr (fun e2 => h.ap a e (by cases e2; rfl))
  · have := (World.ownsRow.stored h.pr q (nat64 v)).1
    rw [List.length_set, List.map_set]; exact this
/-- A relocation's symbol is stored. -/
theorem NmA.setR (h : NmA B W g lT lsz ln lcs sv yv lv pv secs Y P w) {i : Nat} {s : Sc} (hs : secs[i]? = some s) {gr : Nat} (hrp : s.rp = some ⟨gr, 0, none⟩) {q : Nat} {r : Rl} (hq : s.rel[q]? = some r) (v : Int) :
    NmA B W g lT lsz ln lcs sv yv lv pv (secs.set i { s with rel := s.rel.set q { r with sym := v } }) Y P (w.setCell ⟨gr, q * 4 + 2, none⟩ (.int .i64 v)) := by
  have hi : i < secs.length := (List.getElem?_eq_some_iff.1 hs).1
  obtain ⟨hf, hg⟩ := h.fr.setR h.sz hs hi hrp hq v
  have hrv : (rV s).ownBlock = some gr := by unfold rV; rw [hrp]; rfl
  have ht := own_tag (h.fr.each i s hi hs).rel hrv
  have hge := own_ge (h.fr.each i s hi hs).rel gr hrv
  refine ⟨by rw [List.length_set]; exact hf, (hg.block g (Array.getElem?_eq_some_iff.1 h.box).1 (fun e => h.box_ne ht (by decide) (by cases e; rfl))).trans h.box, h.lr.kept hg ?_, h.pr.kept hg ?_, h.ap, h.gB, h.b.grown hg h.sz (fun q e => by cases e; exact hge), h.WB, h.lt⟩
  · cases e : lv.ownBlock with
    | none => exact .inl rfl
    | some a => exact .inr (fun e2 => tag_ne (own_tag h.lr e) ht (by have := h.lt.2; omega) (by cases e2; rfl))
  · cases e : pv.ownBlock with
    | none => exact .inl rfl
    | some a => exact .inr (fun e2 => tag_ne (own_tag h.pr e) ht (by decide) (by cases e2; rfl))
/-! ### Lists of which the first k are turned -/
def mapTo {α : Type} (f : α → α) (c : List α) (k : Nat) : List α := (c.map f).take k ++ c.drop k
theorem mapTo_zero {α : Type} (f : α → α) (c : List α) : mapTo f c 0 = c := by simp [mapTo]
theorem mapTo_len {α : Type} (f : α → α) (c : List α) (k : Nat) : (mapTo f c k).length = c.length := by simp [mapTo]; omega
theorem mapTo_all {α : Type} (f : α → α) (c : List α) {k : Nat} (h : k = c.length) : mapTo f c k = c.map f := by
  subst h
  unfold mapTo
  rw [List.take_of_length_le (by simp), List.drop_eq_nil_of_le (Nat.le_refl _), List.append_nil]
theorem mapTo_get {α : Type} (f : α → α) (c : List α) {k : Nat} {x : α} (h : c[k]? = some x) : (mapTo f c k)[k]? = some x := by
  have hk : k < c.length := (List.getElem?_eq_some_iff.1 h).1
  unfold mapTo
  rw [List.getElem?_append_right (by simp; omega)]
  simp
  rw [show min k c.length = k by omega, Nat.sub_self, Nat.add_zero]; exact h
theorem mapTo_set {α : Type} (f : α → α) (c : List α) {k : Nat} {x : α} (h : c[k]? = some x) : (mapTo f c k).set k (f x) = mapTo f c (k + 1) := by
  have hk : k < c.length := (List.getElem?_eq_some_iff.1 h).1
  have := put_at (c.map f) c k (by simp) (by simpa using hk)
  unfold mapTo
  rw [← this, List.getElem_map, (List.getElem?_eq_some_iff.1 h).2]
theorem set_self {α : Type} : ∀ (l : List α) (k : Nat) (x : α), l[k]? = some x → l.set k x = l
  | [], _, _, h => by simp at h
  | a :: l, 0, x, h => by simp at h; simp [h]
  | a :: l, k + 1, x, h => by simp at h; simp [set_self l k x h]
/-- What Norm gives. -/
structure NormT (W : World) (c : List ScC × List Sy) (e : Ending) (w' : World) : Prop where
  ex : ∃ sv yv secs, e = .returned (.agg #[sv, yv]) ∧ FrV W.heap.size w' sv yv secs (nsyms c.2) secs.length ∧ secs.map Sc.con = c.1.map (nsec c.2)
  b : Below W.heap.size W w'
theorem own_nil {base : Nat} {e : TypeId} {size n m c : Nat} {p : Option Addr} {xs : List Value} (h : w.ownsRow base e size (.slice p m c) n xs) : p = none → c = 0 := by
  rintro rfl
  rcases h.2 with ⟨e1, _⟩ | ⟨g, cap, cur, e1, _⟩
  · injection e1
  · injection e1 with e2; cases e2
/-- An object of the call's own can be read. -/
theorem FrV.rd (h : FrV B w sv yv secs Y secs.length) (hn : secs.length ≤ 4398046510976) (hm : Y.length ≤ 4398046510976) (hc : ∀ s ∈ secs, inU8 s.data ∧ s.data.length ≤ 140737488351232 ∧ s.rel.length ≤ 4398046510976) :
    ∃ o : Ob, (.agg #[sv, yv] : Value) = .agg o.cells.toArray ∧ o.rd w ∧ o.secs = secs ∧ o.syms = Y := by
  obtain ⟨p1, c1, e1, hr1⟩ := own_shape h.os
  obtain ⟨p2, c2, e2, hr2⟩ := own_shape h.oy
  subst e1 e2
  obtain ⟨_, _, e3, hle, _⟩ := own_row h.oy
  cases e3
  refine ⟨⟨secs, p1, c1, Y, p2, c2⟩, rfl, ⟨hr1, hn, fun s hs => ?_, hr2, hm, hle, own_nil h.oy⟩, rfl, rfl⟩
  obtain ⟨i, hi, rfl⟩ := List.getElem_of_mem hs
  have hf := h.each i _ hi (List.getElem?_eq_getElem hi)
  obtain ⟨hu, hdl, hrl⟩ := hc _ hs
  have hd := hf.data
  have hr := hf.rel
  unfold dV at hd
  unfold rV at hr
  obtain ⟨_, _, ed, hrd⟩ := own_shape hd
  obtain ⟨_, _, er, hrr⟩ := own_shape hr
  obtain ⟨_, _, ed2, hdle, _⟩ := own_row hd
  obtain ⟨_, _, er2, hrle, _⟩ := own_row hr
  cases ed; cases er; cases ed2; cases er2
  exact ⟨hrd, hu, hdl, hrr, hrl, ⟨hrle, own_nil hr⟩, ⟨hdle, own_nil hd⟩⟩
end Go.Proofs.Yteccpmmedpkddaa
