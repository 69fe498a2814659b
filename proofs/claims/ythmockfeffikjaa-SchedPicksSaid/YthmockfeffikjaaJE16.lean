/-
  A machine of lists as the walks have it, and what is made of it, in plain words; A machine of lists in memory; Workers, is.
-/
import Derived.Test.YthmockfeffikjaaJE15
import Derived.Test.YthmockfeffikjaaJE14
import Derived.Test.YthmockfeffikjaaJE1
/-! A machine of lists as the walks have it, and what is made of it, in plain words. -/
namespace Go.Proofs.Ythmockfeffikjaa
open Go.RowKit

structure SL where
  mem : Mem
  work : List (List Ac)
  said : List (List (Int × Int))
/-- A worker's next access. -/
def SL.next (S : SL) (n : Int) : Option Ac :=
  if 0 ≤ n ∧ n < S.work.length then (S.work.getD n.toNat [])[(S.said.getD n.toNat []).length]? else none
def SL.doneN (S : SL) (n : Int) : Bool := (S.next n).isNone
def SL.waitsN (S : SL) (n : Int) : Bool := match S.next n with | some a => (S.mem.look n a).2.2 == 231 | none => false
def SL.canN (S : SL) (n : Int) : Bool := !S.doneN n && !S.waitsN n
def SL.stepN (S : SL) (n : Int) : SL :=
  match S.next n with
  | none => S
  | some a => if (S.mem.tell n a).2 = 231 then S else ⟨S.mem.step n a, S.work, S.said.set n.toNat (S.said.getD n.toNat [] ++ [S.mem.tell n a])⟩

def Ac.cells4 (a : Ac) : List Value := [i64 a.kind, i64 a.cell, i64 a.old, i64 a.new]
def acRow (l : List Ac) : List Value := l.flatMap Ac.cells4
theorem acRow_len (l : List Ac) : (acRow l).length = 4 * l.length := flat_len _ 4 (fun _ => rfl) l
theorem ac_cells {w : World} {b o : Nat} {l : List Ac} (h : Row w (some ⟨b, o, none⟩) (acRow l)) (k : Nat) (hk : k < l.length) :
    w.cell? ⟨b, o + k * 4, none⟩ = some (i64 l[k].kind) ∧ w.cell? ⟨b, o + k * 4 + 1, none⟩ = some (i64 l[k].cell) ∧ w.cell? ⟨b, o + k * 4 + 2, none⟩ = some (i64 l[k].old) ∧ w.cell? ⟨b, o + k * 4 + 3, none⟩ = some (i64 l[k].new) := by
  have each : ∀ j (hj : j < 4), w.cell? ⟨b, o + (k * 4 + j), none⟩ = (Ac.cells4 l[k])[j]? := fun j hj => by
    have hl := acRow_len l
    rw [show k * 4 + j = 4 * k + j from by omega]
    rw [h.cell (4 * k + j) (by omega), ← flat_get Ac.cells4 4 (fun _ => rfl) l k hk j hj]
    exact (List.getElem?_eq_getElem (by have : 4 * k + j < (acRow l).length := by omega
                                        exact this)).symm
  exact ⟨each 0 (by omega), each 1 (by omega), each 2 (by omega), each 3 (by omega)⟩
def anCells (x : Int × Int) : List Value := [i64 x.1, i64 x.2]
def anRow (l : List (Int × Int)) : List Value := l.flatMap anCells
theorem anRow_len (l : List (Int × Int)) : (anRow l).length = 2 * l.length := flat_len _ 2 (fun _ => rfl) l
theorem anRow_snoc (l : List (Int × Int)) (x : Int × Int) : anRow (l ++ [x]) = anRow l ++ anCells x := by simp [anRow]
theorem an_cells {w : World} {b o : Nat} {l : List (Int × Int)} (h : Row w (some ⟨b, o, none⟩) (anRow l)) (k : Nat) (hk : k < l.length) :
    w.cell? ⟨b, o + k * 2, none⟩ = some (i64 l[k].1) ∧ w.cell? ⟨b, o + k * 2 + 1, none⟩ = some (i64 l[k].2) := by
  have each : ∀ j (hj : j < 2), w.cell? ⟨b, o + (k * 2 + j), none⟩ = (anCells l[k])[j]? := fun j hj => by
    have hl := anRow_len l
    rw [show k * 2 + j = 2 * k + j from by omega]
    rw [h.cell (2 * k + j) (by omega), ← flat_get anCells 2 (fun _ => rfl) l k hk j hj]
    exact (List.getElem?_eq_getElem (by have : 2 * k + j < (anRow l).length := by omega
                                        exact this)).symm
  exact ⟨each 0 (by omega), each 1 (by omega)⟩

variable {W W' w2 w3 : World} {base : Nat} {fp fa fw fm : Nat → Prop}
/-- A slice of accesses. -/
def AcAt (W : World) (q : Option Addr × Nat) (l : List Ac) : Prop := l.length ≤ q.2 ∧ q.2 ≤ maxLen ∧ (q.1 = none → q.2 = 0) ∧ Row W q.1 (acRow l)
def wkCells : List (Option Addr × Nat) → List (List Ac) → List Value
  | q :: qs, l :: ls => .slice q.1 l.length q.2 :: wkCells qs ls
  | _, _ => []
theorem wkCells_len : ∀ (qs : List (Option Addr × Nat)) (ls : List (List Ac)), qs.length = ls.length → (wkCells qs ls).length = ls.length
  | [], [], _ => rfl
  | q :: qs, l :: ls, h => by simp only [wkCells, List.length_cons]; rw [wkCells_len qs ls (by simpa using h)]
theorem wkCells_get : ∀ (qs : List (Option Addr × Nat)) (ls : List (List Ac)) (i : Nat) (h1 : i < qs.length) (h2 : i < ls.length), (wkCells qs ls)[i]? = some (.slice qs[i].1 ls[i].length qs[i].2)
  | q :: qs, l :: ls, 0, _, _ => rfl
  | q :: qs, l :: ls, i + 1, h1, h2 => by
    simp only [wkCells, List.getElem?_cons_succ, List.getElem_cons_succ]
    exact wkCells_get qs ls i (by simpa using h1) (by simpa using h2)
theorem wkCells_snoc : ∀ (qs : List (Option Addr × Nat)) (ls : List (List Ac)) (q : Option Addr × Nat) (l : List Ac), qs.length = ls.length → wkCells (qs ++ [q]) (ls ++ [l]) = wkCells qs ls ++ [.slice q.1 l.length q.2]
  | [], [], q, l, _ => rfl
  | q :: qs, l :: ls, q2, l2, h => by simp only [List.cons_append, wkCells]; rw [wkCells_snoc qs ls q2 l2 (by simpa using h)]
/-- What the workers do: rows that stay. -/
structure WorkIs (W : World) (wp : Option Addr) (wc : Nat) (ws : List (Option Addr × Nat)) (work : List (List Ac)) (fw : Nat → Prop) : Prop where
  row : Row W wp (wkCells ws work)
  c : work.length ≤ wc ∧ wc ≤ maxLen
  len : ws.length = work.length
  each : ∀ i (h1 : i < ws.length) (h2 : i < work.length), AcAt W ws[i] work[i]
  fv : work ≠ [] → ∀ q, wp = some q → fw q.block
  fs : ∀ i (h1 : i < ws.length) (h2 : i < work.length), work[i] ≠ [] → ∀ q, ws[i].1 = some q → fw q.block
theorem row_blk {p : Option Addr} {cs : List Value} (h : Row W p cs) (hk : cs ≠ [] → ∀ q, p = some q → W'.heap[q.block]? = W.heap[q.block]?) : Row W' p cs := by
  intro hne
  obtain ⟨b, o, rfl, hc⟩ := h hne
  exact ⟨b, o, rfl, fun i hi => by rw [← hc i hi]; exact World.cell?_of_block (a := ⟨b, o + i, none⟩) (hk hne ⟨b, o, none⟩ rfl)⟩
theorem acRow_ne {l : List Ac} (h : acRow l ≠ []) : l ≠ [] := fun e => h (by rw [e]; rfl)
theorem WorkIs.kept {wp : Option Addr} {wc : Nat} {ws : List (Option Addr × Nat)} {work : List (List Ac)} (H : WorkIs W wp wc ws work fw) (hk : ∀ k, fw k → W'.heap[k]? = W.heap[k]?) : WorkIs W' wp wc ws work fw := by
  refine ⟨row_blk H.row (fun hne q e => hk _ (H.fv (fun e2 => hne ?_) q e)), H.c, H.len, fun i h1 h2 => ?_, H.fv, H.fs⟩
  · have := wkCells_len ws work H.len
    exact List.eq_nil_of_length_eq_zero (by rw [this, e2]; rfl)
  · obtain ⟨a, b, c, d⟩ := H.each i h1 h2
    exact ⟨a, b, c, row_blk d (fun hne q e => hk _ (H.fs i h1 h2 (acRow_ne hne) q e))⟩
/-- What the workers were told. -/
structure AnsIs (W : World) (base : Nat) (av : Value) (cs : List Value) (said : List (List (Int × Int))) (fa : Nat → Prop) : Prop where
  own : W.ownsRow base 52 1 av said.length cs
  each : ∀ i (h1 : i < cs.length) (h2 : i < said.length), W.ownsRow base 86 2 cs[i] said[i].length (anRow said[i])
  fv : ∀ g, av.ownBlock = some g → fa g
  fc : ∀ i (h1 : i < cs.length), ∀ g, cs[i].ownBlock = some g → fa g ∧ av.ownBlock ≠ some g
  ap : ∀ i j (h1 : i < cs.length) (h2 : j < cs.length), i ≠ j → ∀ g, cs[i].ownBlock = some g → cs[j].ownBlock ≠ some g
  lt : ∀ k, fa k → k < W.heap.size
theorem AnsIs.len {av : Value} {cs : List Value} {said : List (List (Int × Int))} (H : AnsIs W base av cs said fa) : cs.length = said.length := by have := H.own.1; simpa using this
theorem AnsIs.kept {av : Value} {cs : List Value} {said : List (List (Int × Int))} (H : AnsIs W base av cs said fa) (hk : ∀ k, fa k → W'.heap[k]? = W.heap[k]?) (hs : W.heap.size ≤ W'.heap.size) : AnsIs W' base av cs said fa :=
  ⟨own_blk H.own (fun g hg => hk g (H.fv g hg)), fun i h1 h2 => own_blk (H.each i h1 h2) (fun g hg => hk g (H.fc i h1 g hg).1), H.fv, H.fc, H.ap, fun k h => Nat.lt_of_lt_of_le (H.lt k h) hs⟩
/-- An answer more for worker i. -/
theorem AnsIs.say {g n c : Nat} {cs : List Value} {said : List (List (Int × Int))} (H : AnsIs W base (.slice (some ⟨g, 0, none⟩) n c) cs said fa) (i : Nat) (h1 : i < cs.length) (h2 : i < said.length) (x : Int × Int) {v' : Value}
    (hB : Below W.heap.size W w2) (hown : w3.ownsRow base 86 2 v' (said[i].length + 1) (anRow said[i] ++ anCells x)) (hg : w2.grownBy w3 cs[i].ownBlock) (hst : Stayed w2 cs[i] v')
    {w4 : World} (h4 : w4 = w3.setCell ⟨g, i, none⟩ v') : AnsIs w4 base (.slice (some ⟨g, 0, none⟩) n c) (cs.set i v') (said.set i (said[i] ++ [x])) (fun k => fa k ∨ (W.heap.size ≤ k ∧ k < w4.heap.size)) := by
  have hs2 := hB.size
  have hs3 := hg.size
  have hs4 : w4.heap.size = w3.heap.size := by rw [h4]; simp
  have hcl : ∀ j (hj : j < cs.length) b, cs[j].ownBlock = some b → b < W.heap.size := fun j hj b e => H.lt b (H.fc j hj b e).1
  have hgl : g < W.heap.size := H.lt g (H.fv g rfl)
  have hvb : ∀ b, v'.ownBlock = some b → cs[i].ownBlock = some b ∨ W.heap.size ≤ b := fun b e => (hst b e).imp id (fun h => by omega)
  have hvg : ∀ b, v'.ownBlock = some b → b ≠ g := fun b e e2 => by
    subst e2
    rcases hvb _ e with h | h
    · exact (H.fc i h1 _ h).2 rfl
    · omega
  have near : ∀ b, b < W.heap.size → b ≠ g → cs[i].ownBlock ≠ some b → w4.heap[b]? = W.heap[b]? := fun b hb hbg hbv => by
    rw [h4]
    exact (Below.heap_setCell _ _ _ _ hbg).trans ((hg.block b (by omega) (fun e => hbv e.symm)).trans (hB.block b hb))
  have nearg : w3.heap[g]? = W.heap[g]? := (hg.block g (by omega) (fun e => (H.fc i h1 g e.symm).2 rfl)).trans (hB.block g hgl)
  refine ⟨?_, fun j k1 k2 => ?_, fun b e => .inl (H.fv b e), fun j k1 b e => ?_, fun j k k1 k2 hjk b e => ?_, fun b hb => ?_⟩
  · rw [List.length_set, h4]
    have ho : w3.ownsRow base 52 1 (.slice (some ⟨g, 0, none⟩) n c) said.length cs := own_blk H.own (fun b e => by
      have : b = g := by injection e with e; exact e.symm
      subst this; exact nearg)
    have hn : n = said.length := by
      obtain ⟨p, c', e, _⟩ := own_shape H.own
      injection e
    subst hn
    exact own_set ho i v'
  · rw [List.length_set] at k1 k2
    by_cases hij : i = j
    · subst hij
      simp only [List.getElem_set_self]
      rw [List.length_append, List.length_singleton, anRow_snoc]
      exact own_blk hown (fun b e => by rw [h4]; exact Below.heap_setCell _ _ _ _ (hvg b e))
    · simp only [List.getElem_set_ne hij]
      refine own_blk (H.each j k1 k2) (fun b e => near b (hcl j k1 b e) (fun e2 => (H.fc j k1 b e).2 (by rw [e2]; rfl)) (fun e2 => H.ap i j h1 k1 hij b e2 e))
  · rw [List.length_set] at k1
    by_cases hij : i = j
    · subst hij
      simp only [List.getElem_set_self] at e
      refine ⟨?_, fun e2 => hvg b e (by injection e2 with e2; exact e2.symm)⟩
      rcases hvb b e with h | h
      · exact .inl (H.fc i h1 b h).1
      · have := own_lt hown b e; exact .inr ⟨h, by omega⟩
    · simp only [List.getElem_set_ne hij] at e
      exact ⟨.inl (H.fc j k1 b e).1, (H.fc j k1 b e).2⟩
  · rw [List.length_set] at k1 k2
    by_cases hij : i = j
    · subst hij
      simp only [List.getElem_set_self] at e
      rw [List.getElem_set_ne hjk]
      intro e2
      rcases hvb b e with h | h
      · exact H.ap i k h1 k2 hjk b h e2
      · have := hcl k k2 b e2; omega
    · simp only [List.getElem_set_ne hij] at e
      by_cases hik : i = k
      · subst hik
        simp only [List.getElem_set_self]
        intro e2
        rcases hvb b e2 with h | h
        · exact H.ap j i k1 h1 hjk b e h
        · have := hcl j k1 b e; omega
      · simp only [List.getElem_set_ne hik]
        exact H.ap j k k1 k2 hjk b e
  · rcases hb with h | h
    · have := H.lt b h; omega
    · exact h.2
end Go.Proofs.Ythmockfeffikjaa
/-! A machine of lists in memory; Workers, is. -/
namespace Go.Proofs.Ythmockfeffikjaa
open Go.RowKit
variable {W W' : World} {base L dm : Nat} {S : SL} {fm fa fw fc : Nat → Prop}

structure LMIs (W : World) (base L : Nat) (S : SL) (fm fa fw : Nat → Prop) (dm : Nat) (wp : Option Addr) (wc : Nat) (ws : List (Option Addr × Nat)) (ap : Option Addr) (ac : Nat) (cs : List Value) : Prop where
  head : W.heap[L]? = some (.cells #[.pointer (some ⟨dm, 0, none⟩), .slice wp S.work.length wc, .slice ap S.said.length ac] 67 (0, 0))
  mem : MMach W base dm hdM S.mem fm
  wk : WorkIs W wp wc ws S.work fw
  an : AnsIs W base (.slice ap S.said.length ac) cs S.said fa
  hl : fw L
  lt : ∀ k, fw k → k < W.heap.size
  ma : ∀ k, fm k → ¬ fa k
  mw : ∀ k, fm k → ¬ fw k
  aw : ∀ k, fa k → ¬ fw k
  ln : S.said.length = S.work.length
  le : ∀ i (h1 : i < S.said.length) (h2 : i < S.work.length), S.said[i].length ≤ S.work[i].length
  n1 : S.work.length ≤ 64
  n2 : S.mem.cs.length ≤ 4096
  n3 : ∀ l ∈ S.work, l.length ≤ 4398046511104
  bs : base ≤ W.heap.size
/-- A machine of lists; fc: what turns, fw: what stays. -/
def LM (W : World) (base L : Nat) (S : SL) (fc fw : Nat → Prop) : Prop := ∃ fm fa dm wp wc ws ap ac cs, LMIs W base L S fm fa fw dm wp wc ws ap ac cs ∧ ∀ k, fc k ↔ fm k ∨ fa k
variable {wp ap : Option Addr} {wc ac : Nat} {ws : List (Option Addr × Nat)} {cs : List Value}
theorem LMIs.kept (H : LMIs W base L S fm fa fw dm wp wc ws ap ac cs) (hk : ∀ k, fm k ∨ fa k ∨ fw k → W'.heap[k]? = W.heap[k]?) (hs : W.heap.size ≤ W'.heap.size) : LMIs W' base L S fm fa fw dm wp wc ws ap ac cs :=
  ⟨(hk _ (.inr (.inr H.hl))).trans H.head, H.mem.kept (fun k h => hk k (.inl h)) hs, H.wk.kept (fun k h => hk k (.inr (.inr h))), H.an.kept (fun k h => hk k (.inr (.inl h))) hs, H.hl, fun k h => Nat.lt_of_lt_of_le (H.lt k h) hs, H.ma, H.mw, H.aw, H.ln, H.le, H.n1, H.n2, H.n3, Nat.le_trans H.bs hs⟩
theorem LMIs.mlt (H : LMIs W base L S fm fa fw dm wp wc ws ap ac cs) : ∀ k, fm k → k < W.heap.size := by obtain ⟨v, ys, h⟩ := H.mem; exact h.lt
theorem LMIs.below (H : LMIs W base L S fm fa fw dm wp wc ws ap ac cs) (hb : Below W.heap.size W W') : LMIs W' base L S fm fa fw dm wp wc ws ap ac cs :=
  H.kept (fun k h => hb.block k (by rcases h with h | h | h; exact H.mlt k h; exact H.an.lt k h; exact H.lt k h)) hb.size
theorem LM.kept (H : LM W base L S fc fw) (hk : ∀ k, fc k ∨ fw k → W'.heap[k]? = W.heap[k]?) (hs : W.heap.size ≤ W'.heap.size) : LM W' base L S fc fw := by
  obtain ⟨fm, fa, dm, wp, wc, ws, ap, ac, cs, h, hf⟩ := H
  exact ⟨fm, fa, dm, wp, wc, ws, ap, ac, cs, h.kept (fun k hk2 => hk k (by rcases hk2 with h2 | h2 | h2; exact .inl ((hf k).2 (.inl h2)); exact .inl ((hf k).2 (.inr h2)); exact .inr h2)) hs, hf⟩
theorem LM.below (H : LM W base L S fc fw) (hb : Below W.heap.size W W') : LM W' base L S fc fw := by
  obtain ⟨fm, fa, dm, wp, wc, ws, ap, ac, cs, h, hf⟩ := H
  exact ⟨fm, fa, dm, wp, wc, ws, ap, ac, cs, h.below hb, hf⟩
theorem LM.lt (H : LM W base L S fc fw) : ∀ k, fc k ∨ fw k → k < W.heap.size := by
  obtain ⟨fm, fa, dm, wp, wc, ws, ap, ac, cs, h, hf⟩ := H
  rintro k (hk | hk)
  · rcases (hf k).1 hk with h2 | h2
    · exact h.mlt k h2
    · exact h.an.lt k h2
  · exact h.lt k hk
theorem LMIs.cells (H : LMIs W base L S fm fa fw dm wp wc ws ap ac cs) : W.cell? ⟨L, 0, none⟩ = some (.pointer (some ⟨dm, 0, none⟩)) ∧ W.cell? ⟨L, 1, none⟩ = some (.slice wp S.work.length wc) ∧ W.cell? ⟨L, 2, none⟩ = some (.slice ap S.said.length ac) ∧ L < W.heap.size :=
  ⟨cell_of_row W L 0 _ _ _ H.head, cell_of_row W L 1 _ _ _ H.head, cell_of_row W L 2 _ _ _ H.head, H.lt _ H.hl⟩

theorem lworkers_any (H : LM W base L S fc fw) : Calls Try.prog 25 #[.pointer (some ⟨L, 0, none⟩)] W fun e w' => e = .returned (i64 S.work.length) ∧ W = w' := by
  obtain ⟨fm, fa, dm, wp, wc, ws, ap, ac, cs, h, _⟩ := H
  obtain ⟨c0, c1, c2, hl⟩ := h.cells
  clear h
  go_enter Try.func25, Try.ntmps25
  go_wp2
  go_ret
  exact ⟨rfl, rfl⟩
theorem lis_any (H : LM W base L S fc fw) (n : Int) : Calls Try.prog 38 #[.pointer (some ⟨L, 0, none⟩), i64 n] W fun e w' => e = .returned (.bool (decide (0 ≤ n) && decide (n < S.work.length))) ∧ W = w' := by
  have HW := hid (lworkers_any H)
  clear H
  by_cases h0 : 0 ≤ n
  · by_cases h1 : n < S.work.length
    · have HV : Hid ((decide (0 ≤ n) && decide (n < S.work.length)) = true) := by simp [Hid, h0, h1]
      go_enter Try.func38, Try.ntmps38
      go_wp2_with (go_at_call 25; refine HW.out.mono ?_; rintro e w' ⟨rfl, rfl⟩)
      go_ret
      exact ⟨ret_bool (by first | (rw [HV.out]; done) | (rw [HV.out]; simpa using h1)), rfl⟩
    · have HV : Hid ((decide (0 ≤ n) && decide (n < S.work.length)) = false) := by simp [Hid, h0, h1]
      go_enter Try.func38, Try.ntmps38
      go_wp2_with (go_at_call 25; refine HW.out.mono ?_; rintro e w' ⟨rfl, rfl⟩)
      go_ret
      exact ⟨ret_bool (by first | (rw [HV.out]; done) | (rw [HV.out]; simpa using h1)), rfl⟩
  · have HV : Hid ((decide (0 ≤ n) && decide (n < S.work.length)) = false) := by simp [Hid, h0]
    go_enter Try.func38, Try.ntmps38
    go_wp2_with (go_at_call 25; refine HW.out.mono ?_; rintro e w' ⟨rfl, rfl⟩)
    go_ret
    exact ⟨ret_bool (by rw [HV.out]), rfl⟩
end Go.Proofs.Ythmockfeffikjaa
