/-
  Owned rows whose elements are stored into; owned rows that a call leaves as they lay.
  Append as one step of a region that draws its order.
  Blocks by their kinds.
  copy at elements of more than one cell.
  make as a step of a region held by hand; copy into a row of the call's own.
  Objects in memory of their own; slices cloned.
-/
import Derived.Test.YteccpmmedpkddaaJN0
import Derived.Deep.RegionLaw
import Derived.Laws.AppendOwnNone
import Derived.Test.YteccpmmedpkddaaProg
import Derived.Laws.CopyOwn
import Derived.Test.YteccpmmedpkddaaJN5
namespace Go.Proofs.Yteccpmmedpkddaa
open Go.RowKit

/-- What is owned lies on through a call that leaves all that lay. -/
theorem own_below {w w' : World} {base : Nat} {e : TypeId} {size : Nat} {v : Value} {n : Nat} {xs : List Value} (h : w.ownsRow base e size v n xs) (hb : Below w.heap.size w w') : w'.ownsRow base e size v n xs := by
  refine ⟨h.1, ?_⟩
  rcases h.2 with hn | ⟨g, cap, cur, hv, hge, hg, rest⟩
  · exact .inl hn
  · exact .inr ⟨g, cap, cur, hv, hge, (hb.block g (Array.getElem?_eq_some_iff.1 hg).1).trans hg, rest⟩

/-- The same at another bound. -/
theorem own_belowB {B : Nat} {w w' : World} {base : Nat} {e : TypeId} {size : Nat} {v : Value} {n : Nat} {xs : List Value} (h : w.ownsRow base e size v n xs) (hb : Below B w w') (hv : ∀ g, v.ownBlock = some g → g < B) : w'.ownsRow base e size v n xs := by
  refine ⟨h.1, ?_⟩
  rcases h.2 with hn | ⟨g, cap, cur, rfl, hge, hg, rest⟩
  · exact .inl hn
  · exact .inr ⟨g, cap, cur, rfl, hge, (hb.block g (hv g rfl)).trans hg, rest⟩

/-- The border may be set lower. -/
theorem own_lower {w : World} {base base' : Nat} {e : TypeId} {size : Nat} {v : Value} {n : Nat} {xs : List Value} (h : w.ownsRow base e size v n xs) (hb : base' ≤ base) : w.ownsRow base' e size v n xs := by
  refine ⟨h.1, ?_⟩
  rcases h.2 with hn | ⟨g, cap, cur, hv, hge, rest⟩
  · exact .inl hn
  · exact .inr ⟨g, cap, cur, hv, by omega, rest⟩

/-- The cells of an owned row, and that none is frozen. -/
theorem own_cell {w : World} {base : Nat} {e : TypeId} {size g n c : Nat} {xs : List Value} (h : w.ownsRow base e size (.slice (some ⟨g, 0, none⟩) n c) n xs) (i : Nat) (hi : i < xs.length) :
    w.cell? ⟨g, i, none⟩ = some xs[i] ∧ w.frozen? ⟨g, i, none⟩ = false := by
  refine ⟨?_, ?_⟩
  · have := h.cells (g := g) rfl i xs[i] (by simp [hi])
    rwa [addr_add, Nat.zero_add] at this
  · rcases h.2 with ⟨h0, _⟩ | ⟨g', cap', cur, hv, hg, hh, _⟩
    · cases h0
    · cases hv; exact frozen_of_row _ _ _ _ _ hh

theorem list_take_set {α : Type} (l : List α) (n i : Nat) (x : α) : (l.set i x).take n = (l.take n).set i x := by
  apply List.ext_getElem?
  intro j
  simp only [List.getElem?_take, List.getElem?_set, List.length_take]
  by_cases hj : j < n
  · by_cases hij : i = j
    · subst hij
      by_cases hl : i < l.length
      · simp [hj, hl, show i < min n l.length by omega]
      · simp [hj, hl, show ¬ i < min n l.length by omega]
    · simp [hj, hij]
  · by_cases hij : i = j
    · subst hij; simp [hj]; omega
    · simp [hj, hij]

/-- A store into an owned row. -/
theorem own_set {w : World} {base : Nat} {e : TypeId} {size g n c : Nat} {xs : List Value} (h : w.ownsRow base e size (.slice (some ⟨g, 0, none⟩) n c) n xs) (i : Nat) (u : Value) :
    (w.setCell ⟨g, i, none⟩ u).ownsRow base e size (.slice (some ⟨g, 0, none⟩) n c) n (xs.set i u) := by
  refine ⟨by rw [List.length_set]; exact h.1, ?_⟩
  rcases h.2 with ⟨h0, _⟩ | ⟨g', cap', cur, hv, hge, hh, hn, hcap, hsz, htake⟩
  · cases h0
  · cases hv
    refine .inr ⟨g, c, cur.setIfInBounds i u, rfl, hge, heap_setCell_same w g i cur e u hh, hn, hcap, by simpa using hsz, ?_⟩
    rw [Array.toList_setIfInBounds, list_take_set, htake]

/-- An owned row of more than no cells lies in a block. -/
theorem own_block {w : World} {base : Nat} {e : TypeId} {size : Nat} {v : Value} {n : Nat} {xs : List Value} (h : w.ownsRow base e size v n xs) (hn : 0 < n) : ∃ g c, v = .slice (some ⟨g, 0, none⟩) n c ∧ base ≤ g ∧ g < w.heap.size ∧ n ≤ c ∧ c ≤ maxLen := by
  rcases h.2 with ⟨_, h0⟩ | ⟨g, c, cur, hv, hge, hh, hnc, hcm, _⟩
  · omega
  · exact ⟨g, c, hv, hge, (Array.getElem?_eq_some_iff.1 hh).1, hnc, hcm⟩

/-- A store into a block leaves rows in other blocks. -/
theorem Row.set_other {w : World} {p : Option Addr} {cs : List Value} (h : Row w p cs) (a : Addr) (u : Value) (hne : ∀ q, p = some q → q.block ≠ a.block) : Row (w.setCell a u) p cs := by
  intro hcs
  obtain ⟨b, o, hp, hc⟩ := h hcs
  refine ⟨b, o, hp, fun i hi => ?_⟩
  rw [World.cell?_setCell_other]
  · exact hc i hi
  · intro e
    have := congrArg Addr.block e
    exact hne _ hp this.symm

/-- What is owned lies on where another block is stored into. -/
theorem own_setO {w : World} {base : Nat} {e : TypeId} {size : Nat} {v : Value} {n : Nat} {xs : List Value} (h : w.ownsRow base e size v n xs) (a : Addr) (u : Value) (hne : ∀ g, v.ownBlock = some g → g ≠ a.block) : (w.setCell a u).ownsRow base e size v n xs := by
  refine ⟨h.1, ?_⟩
  rcases h.2 with hn | ⟨g, cap, cur, rfl, hge, hg, rest⟩
  · exact .inl hn
  · exact .inr ⟨g, cap, cur, rfl, hge, (Below.heap_setCell w a u g (hne g rfl)).trans hg, rest⟩
theorem grown_frozen {w w' : World} {row : Option Nat} (hg : w.grownBy w' row) (a : Addr) (hlt : a.block < w.heap.size) (hne : some a.block ≠ row) : w'.frozen? a = w.frozen? a := World.frozen?_of_block (hg.block a.block hlt hne)

/-- A store into a newer block leaves rows as they lay. -/
theorem Row.set_lt {w0 w : World} {p : Option Addr} {cs : List Value} (h : Row w p cs) (h0 : Row w0 p cs) (a : Addr) (u : Value) (ha : w0.heap.size ≤ a.block) : Row (w.setCell a u) p cs := by
  intro hcs
  obtain ⟨b, o, rfl, hc⟩ := h hcs
  obtain ⟨b', o', e, hc'⟩ := h0 hcs
  cases e
  have hl : b < w0.heap.size := World.block_lt_of_cell? w0 _ (hc' 0 (by cases cs with | nil => exact absurd rfl hcs | cons a l => simp))
  refine ⟨b, o, rfl, fun i hi => ?_⟩
  rw [World.cell?_setCell_other]
  · exact hc i hi
  · intro e
    have := congrArg Addr.block e
    simp at this
    omega

/-- Zeros of one cell. -/
theorem made_one (z : Value) (n : Nat) (hz : z.cells = #[z]) : (madeCells z.cells (n * 1)).toList = List.replicate n z := by
  rw [hz]
  simp only [madeCells, Nat.mul_one]
  apply List.ext_getElem
  · simp
  · intro i h1 h2
    simp [Nat.mod_one]

/-- A list whose first k elements are f's, the rest z. -/
def fillTo {α : Type} (f : Nat → α) (z : α) (n k : Nat) : List α := (List.range n).map (fun j => if j < k then f j else z)
theorem fill_len {α : Type} (f : Nat → α) (z : α) (n k : Nat) : (fillTo f z n k).length = n := by simp [fillTo]
theorem fill_get {α : Type} (f : Nat → α) (z : α) (n k j : Nat) (h : j < n) : (fillTo f z n k)[j]'(by simp [fillTo, h]) = if j < k then f j else z := by simp [fillTo]
theorem fill_zero {α : Type} (f : Nat → α) (z : α) (n : Nat) : fillTo f z n 0 = List.replicate n z := by
  apply List.ext_getElem
  · simp [fillTo]
  · intro i h1 h2; simp [fillTo]
theorem fill_full {α : Type} (f : Nat → α) (z : α) (n : Nat) : fillTo f z n n = (List.range n).map f := by
  apply List.ext_getElem
  · simp [fillTo]
  · intro i h1 h2; simp [fillTo] at h1 ⊢; omega
theorem fill_set {α : Type} (f : Nat → α) (z : α) (n k : Nat) : (fillTo f z n k).set k (f k) = fillTo f z n (k + 1) := by
  apply List.ext_getElem
  · simp [fillTo]
  · intro i h1 h2
    simp only [fillTo, List.length_map, List.length_range] at h2
    rw [List.getElem_set]
    simp only [fillTo, List.getElem_map, List.getElem_range]
    by_cases hk : k = i
    · subst hk; simp
    · by_cases h3 : i < k
      · rw [if_neg hk, if_pos h3, if_pos (by omega)]
      · rw [if_neg hk, if_neg h3, if_neg (by omega)]
theorem fill_skip {α : Type} (f : Nat → α) (z : α) (n k : Nat) (h : f k = z) : fillTo f z n k = fillTo f z n (k + 1) := by
  apply List.ext_getElem
  · simp [fillTo]
  · intro i h1 h2
    simp only [fillTo, List.getElem_map, List.getElem_range]
    by_cases h3 : i < k
    · rw [if_pos h3, if_pos (by omega)]
    · by_cases hk : k = i
      · subst hk; rw [if_neg (by omega), if_pos (by omega), h]
      · rw [if_neg h3, if_neg (by omega)]
end Go.Proofs.Yteccpmmedpkddaa
namespace Go.Proofs.Yteccpmmedpkddaa
open Go.RowKit
variable {P : Program} {w : World} {t e : TypeId} {size bytes : Nat} {z : Value} {ops : Array Oper} {o : Oper} {a : Act} {K : Act → World → Prop} {Q : Exit → Act → World → Prop} {C : Prop}
theorem step_app (E : Elem P t e size bytes z) (hgd : o.guard = none) (s x : Operand)
    (ho : o.op = .call { callee := .builtin .append, args := #[s, x], argTypes := #[t, t] })
    (base : Nat) (v : Value) (n : Nat) (xs : List Value) (hs : a.eval s = v) (hown : w.ownsRow base e size v n xs)
    (ad : Addr) (m c : Nat) (news : List Value) (hx : a.eval x = .slice (some ad) m c) (hl : news.length = m * size) (hrow : Row w (some ad) news) (h1 : ∀ u ∈ news, u.oneCell' = true)
    (h63 : n + m ≤ maxLen) (hbytes : (n + m) * bytes ≤ 140737488355328) (hbase : base ≤ w.heap.size)
    (h : ∀ v' w', w'.ownsRow base e size v' (n + m) (xs ++ news) → w.grownBy w' v.ownBlock → Stayed w v v' → K (a.put o.dst v') w') :
    if Region.wanted o (yielded ops a.tmps) = true then Oper.wp P o a w K Q else C := by
  have hw : Region.wanted o (yielded ops a.tmps) = true := by simp [Region.wanted, hgd]
  rw [if_pos hw]
  obtain ⟨i, hi, hz, hsz, hby⟩ := E.info
  have hnews : ∀ j u, news[j]? = some u → w.cell? (ad.add j) = some u := by
    intro j u hj
    have hjl : j < news.length := (List.getElem?_eq_some_iff.1 hj).1
    obtain ⟨b, o, e1, hc⟩ := hrow (by intro e1; rw [e1] at hjl; simp at hjl)
    cases e1
    rw [addr_add, hc j hjl]
    rw [List.getElem?_eq_getElem hjl] at hj
    exact hj
  obtain ⟨v', w', hr, h2, h3, _⟩ := run_append_own (P := P) w base t o.type e i z size bytes E.desc hi hz hsz hby E.cells E.pos v n xs hown ad m c news hl hnews h1 h63 hbytes hbase
  have h4 := app_stayed E o.type base v n xs hown ad m c news hl hnews h1 h63 hbytes hr
  unfold Oper.wp execOp
  simp only [ho, resolve, invoke, builtin, Sem.run_bind, Sem.run_pure, Result.andThen_ok, List.map_toArray, List.map_cons, List.map_nil, hs, hx, hr]
  exact h v' w' h2 h3 h4
theorem step_appO (E : Elem P t e size bytes z) (hgd : o.guard = none) (s x : Operand)
    (ho : o.op = .call { callee := .builtin .append, args := #[s, x], argTypes := #[t, t] })
    (base : Nat) (v : Value) (n : Nat) (xs : List Value) (hs : a.eval s = v) (hown : w.ownsRow base e size v n xs)
    (p : Option Addr) (m c : Nat) (news : List Value) (hx : a.eval x = .slice p m c) (hl : news.length = m * size) (hnil : p = none → c = 0) (hrow : Row w p news) (h1 : ∀ u ∈ news, u.oneCell' = true)
    (h63 : n + m ≤ maxLen) (hbytes : (n + m) * bytes ≤ 140737488355328) (hbase : base ≤ w.heap.size)
    (h : ∀ v' w', w'.ownsRow base e size v' (n + m) (xs ++ news) → w.grownBy w' v.ownBlock → Stayed w v v' → K (a.put o.dst v') w') :
    if Region.wanted o (yielded ops a.tmps) = true then Oper.wp P o a w K Q else C := by
  cases p with
  | some ad => exact step_app E hgd s x ho base v n xs hs hown ad m c news hx hl hrow h1 h63 hbytes hbase h
  | none =>
    have hw : Region.wanted o (yielded ops a.tmps) = true := by simp [Region.wanted, hgd]
    rw [if_pos hw]
    obtain ⟨i, hi, hz, hsz, hby⟩ := E.info
    have hc : c = 0 := hnil rfl
    subst hc
    have hn : news = [] := by
      apply Classical.byContradiction
      intro hne
      obtain ⟨b, o, e1, _⟩ := hrow hne
      cases e1
    subst hn
    have hm : m = 0 := by
      have := E.pos
      have hl' : 0 = m * size := hl
      rcases Nat.mul_eq_zero.1 hl'.symm with h0 | h0
      · exact h0
      · omega
    subst hm
    have hr := run_append_owned_none (P := P) (w := w) base t o.type e i size E.desc hi v n xs hown
    unfold Oper.wp execOp
    simp only [ho, resolve, invoke, builtin, Sem.run_bind, Sem.run_pure, Result.andThen_ok, List.map_toArray, List.map_cons, List.map_nil, hs, hx, hr]
    exact h v w (by simpa using hown) (World.grownBy.refl _ _) (fun g hg => .inl hg)
end Go.Proofs.Yteccpmmedpkddaa
namespace Go.Proofs.Yteccpmmedpkddaa
open Go.RowKit

/-! ### Blocks by their kinds -/
def tagO : Obj → Nat
  | .cells _ T _ => T + 1
  | _ => 0
def tagAt (W : World) (b : Nat) : Option Nat := (W.heap[b]?).map tagO
variable {W W' w w' : World} {base : Nat}
theorem tag_ne {a b x y : Nat} (ha : tagAt W a = some x) (hb : tagAt W b = some y) (h : x ≠ y) : a ≠ b := fun e => by
  subst e; rw [ha] at hb; exact h (Option.some.inj hb)
theorem tag_lt {b x : Nat} (h : tagAt W b = some x) : b < W.heap.size := by
  unfold tagAt at h
  cases e : W.heap[b]? with
  | none => rw [e] at h; cases h
  | some o => exact (Array.getElem?_eq_some_iff.1 e).1
theorem tag_blk {b x : Nat} (h : tagAt W b = some x) (hk : W'.heap[b]? = W.heap[b]?) : tagAt W' b = some x := by unfold tagAt at h ⊢; rw [hk]; exact h
theorem tag_row {b : Nat} {cur : Array Value} {e : TypeId} {fz : Nat × Nat} (h : W.heap[b]? = some (.cells cur e fz)) : tagAt W b = some (e + 1) := by unfold tagAt; rw [h]; rfl
theorem own_tag {e : TypeId} {size n g : Nat} {v : Value} {xs : List Value} (h : W.ownsRow base e size v n xs) (hg : v.ownBlock = some g) : tagAt W g = some (e + 1) := by
  rcases h.2 with ⟨rfl, _⟩ | ⟨g', cap, cur, rfl, _, hh, _⟩
  · cases hg
  · have : g' = g := by simpa [Value.ownBlock] using hg
    subst this
    exact tag_row hh
theorem map_tag {κ β : Type} {mk : κ → Value} {mv : β → Value} {b : Nat} {m : List (κ × β)} (h : MapIs mk mv W b m) : tagAt W b = some 0 := by
  obtain ⟨es, c, hb, _⟩ := h
  unfold tagAt; rw [hb]; rfl
theorem own_blk {e : TypeId} {size n : Nat} {v : Value} {xs : List Value} (h : w.ownsRow base e size v n xs) (hk : ∀ g, v.ownBlock = some g → w'.heap[g]? = w.heap[g]?) : w'.ownsRow base e size v n xs := by
  refine ⟨h.1, ?_⟩
  rcases h.2 with hn' | ⟨g, cap, cur, rfl, hge, hg, rest⟩
  · exact .inl hn'
  · exact .inr ⟨g, cap, cur, rfl, hge, (hk g rfl).trans hg, rest⟩
theorem row_blk {p : Option Addr} {cs : List Value} (h : Row W p cs) (hk : ∀ q, p = some q → W'.heap[q.block]? = W.heap[q.block]?) : Row W' p cs := by
  intro hne
  obtain ⟨b, o, rfl, hc⟩ := h hne
  exact ⟨b, o, rfl, fun i hi => (World.cell?_of_block (a := ⟨b, o + i, none⟩) (hk ⟨b, o, none⟩ rfl)).trans (hc i hi)⟩
theorem grown_undrew {w w1 : World} {row : Option Nat} (h : w.drew.grownBy w1 row) : w.grownBy w1 row := by
  obtain ⟨a, b, c, d, e⟩ := h
  exact ⟨a, b, c, d, e⟩
/-- Blocks of the kinds of P lie on, and those below base. -/
structure Lies (base : Nat) (P : Nat → Prop) (W W' : World) : Prop where
  tag : ∀ b x, tagAt W b = some x → P x → W'.heap[b]? = W.heap[b]?
  low : ∀ b, b < base → W'.heap[b]? = W.heap[b]?
  size : W.heap.size ≤ W'.heap.size
theorem Lies.refl (base : Nat) (P : Nat → Prop) (W : World) : Lies base P W W := ⟨fun _ _ _ _ => rfl, fun _ _ => rfl, Nat.le_refl _⟩
theorem Lies.trans {P : Nat → Prop} {W1 W2 W3 : World} (h : Lies base P W1 W2) (h2 : Lies base P W2 W3) : Lies base P W1 W3 :=
  ⟨fun b x hb hp => (h2.tag b x (tag_blk hb (h.tag b x hb hp)) hp).trans (h.tag b x hb hp), fun b hb => (h2.low b hb).trans (h.low b hb), Nat.le_trans h.size h2.size⟩
theorem Lies.mono {P Q : Nat → Prop} (h : Lies base P W W') (hq : ∀ x, Q x → P x) : Lies base Q W W' := ⟨fun b x hb hx => h.tag b x hb (hq x hx), h.low, h.size⟩
theorem Lies.below (P : Nat → Prop) (hb : Below W.heap.size W W') (hz : base ≤ W.heap.size) : Lies base P W W' := ⟨fun b x ht _ => hb.block b (tag_lt ht), fun b h => hb.block b (by omega), hb.size⟩
/-- A write into a block of a kind that P has not. -/
theorem Lies.grown {P : Nat → Prop} {row : Option Nat} {x : Nat} (hg : W.grownBy W' row) (hr : ∀ g, row = some g → tagAt W g = some x ∧ base ≤ g) (hx : ¬ P x) (hz : base ≤ W.heap.size) : Lies base P W W' :=
  ⟨fun b y hb hy => hg.block b (tag_lt hb) (fun e => by have h1 := (hr b e.symm).1; rw [hb] at h1; cases h1; exact hx hy), fun b hb => hg.block b (by omega) (fun e => by have h1 := (hr b e.symm).2; omega), hg.size⟩
theorem Lies.own {P : Nat → Prop} {e : TypeId} {size n : Nat} {v : Value} {xs : List Value} (h : Lies base P W W') (ho : W.ownsRow base e size v n xs) (hp : P (e + 1)) : W'.ownsRow base e size v n xs := own_blk ho (fun g hg => h.tag g _ (own_tag ho hg) hp)
theorem grown_set (w : World) (a : Addr) (v : Value) : w.grownBy (w.setCell a v) (some a.block) :=
  ⟨rfl, rfl, rfl, by simp, fun k _ hk => heap_setCell_other _ _ _ _ (fun e => hk (by rw [e]))⟩

end Go.Proofs.Yteccpmmedpkddaa
namespace Go.Proofs.Yteccpmmedpkddaa
open Go.RowKit

theorem run_copy_sz {P : Program} (w : World) (dT sT ty elem : TypeId) (g o dLen dCap : Nat) (a : Addr) (sLen sCap : Nat) (cur : Array Value) (t : TypeId) (cs : List Value) (sz : Nat)
    (hu : P.underlying dT = some (.slice elem)) (hs : (P.info? elem).map (·.size) = some sz)
    (hg : w.heap[g]? = some (.cells cur t (0, 0))) (hn : cs.length = Nat.min sLen dLen * sz)
    (hsrc : ∀ j v, cs[j]? = some v → w.cell? (a.add j) = some v) (hfit : o + cs.length ≤ cur.size) (h1 : ∀ v ∈ cs, v.oneCell' = true) :
    (Builtin.copy_ #[dT, sT] ty #[.slice (some ⟨g, o, none⟩) dLen dCap, .slice (some a) sLen sCap]).run P w =
      .ok (goInt (Nat.min sLen dLen)) (w.setRow g (cur.toList.take o ++ cs ++ cur.toList.drop (o + cs.length)).toArray) := by
  have hl := run_loadCells_list (P := P) w a cs hsrc
  have hst := run_storeCells_at P g o t cs 0 cur w hg (by simpa using hfit) h1
  cases hq : P.info? elem with
  | none => simp [hq] at hs
  | some i =>
    have hi : i.size = sz := by simpa [hq] using hs
    simp [Builtin.copy_, run_underlying hu, Builtin.lenOf, Builtin.firstCells, sizeOf, typeInfo, hq, hi, ← hn, hl, hst]

theorem wpList_copy_sz {P : Program} {w : World} {ops : Array Oper} {rest : List Oper} {o : Oper} {a : Act} {Q : Exit → Act → World → Prop} (hgd : o.guard = none) (d s : Operand) (dT sT : TypeId)
    (ho : o.op = .call { callee := .builtin .copy, args := #[d, s], argTypes := #[dT, sT] }) (elem : TypeId) (hu : P.underlying dT = some (.slice elem)) (sz : Nat) (hsz : (P.info? elem).map (·.size) = some sz)
    (g off dLen dCap : Nat) (ad : Addr) (sLen sCap : Nat) (hd : a.eval d = .slice (some ⟨g, off, none⟩) dLen dCap) (hs : a.eval s = .slice (some ad) sLen sCap)
    (cur : List Value) (t : TypeId) (hg : w.heap[g]? = some (.cells cur.toArray t (0, 0))) (n : Nat) (hmin : Nat.min sLen dLen = n) (cs : List Value) (hn : cs.length = n * sz)
    (hsrc : ∀ j v, cs[j]? = some v → w.cell? (ad.add j) = some v) (hfit : off + cs.length ≤ cur.length) (h1 : ∀ v ∈ cs, v.oneCell' = true)
    (h : ∀ w', Hid (w'.heap[g]? = some (.cells (splice cur off cs).toArray t (0, 0))) → w.grownBy w' (some g) → wpList P ops Q rest (a.put o.dst (goInt n)) w') : wpList P ops Q (o :: rest) a w := by
  refine wpList_plain hgd fun K hK => ?_
  have hrun := run_copy_sz (P := P) w dT sT o.type elem g off dLen dCap ad sLen sCap cur.toArray t cs sz hu hsz hg (by rw [hmin]; exact hn) hsrc (by simpa using hfit) h1
  rw [hmin] at hrun
  unfold Oper.wp
  simp [execOp, ho, resolve, invoke, builtin, hd, hs, hrun, Result.andThen]
  exact hK _ _ (h _ (show _ = _ by simpa [splice] using setRow_heap w g _ _ t _ hg) ⟨rfl, rfl, rfl, by simp [World.setRow], fun k hk hne => setRow_other w g k _ (fun e => hne (by rw [e]))⟩)

theorem step_copy_sz {P : Program} {ops : Array Oper} {o : Oper} {a : Act} {w : World} {K : Act → World → Prop} {Q : Exit → Act → World → Prop} {E : Prop} (hgd : o.guard = none) (d s : Operand) (dT sT : TypeId)
    (ho : o.op = .call { callee := .builtin .copy, args := #[d, s], argTypes := #[dT, sT] }) (elem : TypeId) (hu : P.underlying dT = some (.slice elem)) (sz : Nat) (hsz : (P.info? elem).map (·.size) = some sz)
    (g off dLen dCap : Nat) (ad : Addr) (sLen sCap : Nat) (hd : a.eval d = .slice (some ⟨g, off, none⟩) dLen dCap) (hs : a.eval s = .slice (some ad) sLen sCap)
    (cur : List Value) (t : TypeId) (hg : w.heap[g]? = some (.cells cur.toArray t (0, 0))) (n : Nat) (hmin : Nat.min sLen dLen = n) (cs : List Value) (hn : cs.length = n * sz)
    (hsrc : ∀ j v, cs[j]? = some v → w.cell? (ad.add j) = some v) (hfit : off + cs.length ≤ cur.length) (h1 : ∀ v ∈ cs, v.oneCell' = true)
    (h : ∀ w', Hid (w'.heap[g]? = some (.cells (splice cur off cs).toArray t (0, 0))) → w.grownBy w' (some g) → K (a.put o.dst (goInt n)) w') :
    if Region.wanted o (yielded ops a.tmps) = true then Oper.wp P o a w K Q else E := by
  have hw : Region.wanted o (yielded ops a.tmps) = true := by simp [Region.wanted, hgd]
  rw [if_pos hw]
  have hrun := run_copy_sz (P := P) w dT sT o.type elem g off dLen dCap ad sLen sCap cur.toArray t cs sz hu hsz hg (by rw [hmin]; exact hn) hsrc (by simpa using hfit) h1
  rw [hmin] at hrun
  unfold Oper.wp
  simp [execOp, ho, resolve, invoke, builtin, hd, hs, hrun, Result.andThen]
  exact h _ (show _ = _ by simpa [splice] using setRow_heap w g _ _ t _ hg) ⟨rfl, rfl, rfl, by simp [World.setRow], fun k hk hne => setRow_other w g k _ (fun e => hne (by rw [e]))⟩
end Go.Proofs.Yteccpmmedpkddaa
namespace Go.Proofs.Yteccpmmedpkddaa
open Go.RowKit
variable {P : Program}
theorem of_alloc {w w9 : World} {o : Obj} (h : World.alloc w o = w9) : Below w.heap.size w w9 ∧ w9.heap[w.heap.size]? = some o ∧ w.heap.size < w9.heap.size := by
  subst h
  exact ⟨(Below.refl _ _).alloc (Nat.le_refl _) _, heap_alloc_new _ _, by simp⟩
theorem below_none {w w' : World} (h : w.grownBy w' none) : Below w.heap.size w w' := ⟨h.os, h.tape, h.output, h.size, fun k hk => h.block k hk (by simp)⟩
theorem step_mk {t e : TypeId} {size bytes : Nat} {z : Value} {w : World} {ops : Array Oper} {o : Oper} {a : Act} {K' : Act → World → Prop} {Q : Exit → Act → World → Prop} {C : Prop}
    (E : Elem P t e size bytes z) (hgd : o.guard = none) (l c : Operand) (ho : o.op = .makeSlice t l c) (base : Nat) (kl kc : IntKind) (n : Nat) (hl : a.eval l = .int kl n) (hc : a.eval c = .int kc n)
    (hb : bytes * n ≤ 281474976710656) (hm : n ≤ maxLen) (hbase : base ≤ w.heap.size)
    (hK : ∀ w', w'.ownsRow base e size (.slice (some ⟨w.heap.size, 0, none⟩) n n) n (madeCells z.cells (n * size)).toList → w.grownBy w' none → K' (a.put o.dst (.slice (some ⟨w.heap.size, 0, none⟩) n n)) w') : if Region.wanted o (yielded ops a.tmps) = true then Oper.wp P o a w K' Q else C := by
  have hw : Region.wanted o (yielded ops a.tmps) = true := by simp [Region.wanted, hgd]
  rw [if_pos hw]
  obtain ⟨i, hi, hz, hsz, hby⟩ := E.info
  obtain ⟨w', hrun, h1, h2⟩ := run_make_full (P := P) w base t e i z size E.desc hi hz hsz kl kc n (by rw [hby]; exact hb) hm hbase
  unfold Oper.wp
  simp [execOp, ho, hl, hc, hrun, Result.andThen]
  exact hK w' h1 h2
theorem run_copy_zero {w : World} (dT sT ty elem : TypeId) (dp sp : Option Addr) (dCap sCap : Nat) (hu : P.underlying dT = some (.slice elem)) (sz : Nat) (hs : (P.info? elem).map (·.size) = some sz) :
    (Builtin.copy_ #[dT, sT] ty #[.slice dp 0 dCap, .slice sp 0 sCap]).run P w = .ok (goInt 0) w := by
  cases hq : P.info? elem with
  | none => simp [hq] at hs
  | some i =>
    have hi : i.size = sz := by simpa [hq] using hs
    have hl : ∀ (x : Addr), (loadCells x 0).run P w = .ok #[] w := fun x => by simpa using run_loadCells_list (P := P) w x [] (by simp)
    cases dp <;> cases sp <;> simp [Builtin.copy_, run_underlying hu, Builtin.lenOf, Builtin.firstCells, sizeOf, typeInfo, hq, hi, storeCells, hl]
/-- copy into a whole row of the call's own. -/
theorem wpList_copy_row {t e : TypeId} {size bytes : Nat} {z : Value} {w : World} {ops : Array Oper} {rest : List Oper} {o : Oper} {a : Act} {Q : Exit → Act → World → Prop}
    (E : Elem P t e size bytes z) (hgd : o.guard = none) (d s : Operand) (ho : o.op = .call { callee := .builtin .copy, args := #[d, s], argTypes := #[t, t] }) (base g n c : Nat) (p : Option Addr) (sc : Nat)
    (hd : a.eval d = .slice (some ⟨g, 0, none⟩) n c) (hs : a.eval s = .slice p n sc) (xs cs : List Value) (hown : w.ownsRow base e size (.slice (some ⟨g, 0, none⟩) n c) n xs) (hrow : Row w p cs) (hn : cs.length = n * size) (hpos : 0 < size) (h1 : ∀ v ∈ cs, v.oneCell' = true)
    (h : ∀ w', w'.ownsRow base e size (.slice (some ⟨g, 0, none⟩) n c) n cs → w.grownBy w' (some g) → wpList P ops Q rest (a.put o.dst (goInt n)) w') : wpList P ops Q (o :: rest) a w := by
  obtain ⟨i, hi, hz, hsz, hby⟩ := E.info
  have hszz : (P.info? e).map (·.size) = some size := by rw [hi]; simp [hsz]
  by_cases h0 : n = 0
  · subst h0
    have hcs : cs = [] := List.eq_nil_of_length_eq_zero (by omega)
    have hxs : xs = [] := List.eq_nil_of_length_eq_zero (by have := hown.1; omega)
    subst hcs hxs
    refine wpList_plain hgd fun K hK => ?_
    have hrun := run_copy_zero (P := P) (w := w) t t o.type e (some ⟨g, 0, none⟩) p c sc E.desc size hszz
    unfold Oper.wp
    simp [execOp, ho, resolve, invoke, builtin, hd, hs, hrun, Result.andThen]
    exact hK _ _ (h w hown ⟨rfl, rfl, rfl, Nat.le_refl _, fun _ _ _ => rfl⟩)
  · obtain ⟨b, off, rfl, hc⟩ := hrow (by intro e0; rw [e0] at hn; simp at hn; rcases Nat.eq_zero_or_pos n with h | h; exact h0 h; have := Nat.mul_pos h hpos; omega)
    rcases hown.2 with ⟨hh, _⟩ | ⟨g', cap', cur, hh, hge, hg, hnc, hcm, hcs, htake⟩
    · cases hh
    · simp only [Value.slice.injEq, Option.some.injEq, Addr.mk.injEq, and_true, true_and] at hh
      obtain ⟨rfl, rfl⟩ := hh
      have hcur : cur.size = c * size := hcs
      have hle : n * size ≤ c * size := Nat.mul_le_mul_right _ hnc
      refine wpList_copy_sz hgd d s t t ho e E.desc size hszz g 0 n c ⟨b, off, none⟩ n sc hd hs cur.toList e (by simpa using hg) n (Nat.min_self n) cs hn (fun j v hj => ?_) (by simp; omega) h1 (fun w' hw' hgr => ?_)
      · obtain ⟨hj2, rfl⟩ := List.getElem?_eq_some_iff.1 hj
        rw [addr_add]; exact hc j hj2
      · refine h w' ⟨hn, .inr ⟨g, c, (splice cur.toList 0 cs).toArray, rfl, hge, hw'.out, hnc, hcm, ?_, ?_⟩⟩ hgr
        · rw [List.size_toArray, length_splice _ _ _ (by simp; omega)]; simpa using hcs
        · unfold splice
          simp only [List.take_zero, List.nil_append]
          rw [← hn, List.take_left']
          rfl
end Go.Proofs.Yteccpmmedpkddaa
namespace Go.Proofs.Yteccpmmedpkddaa
open Go.RowKit
variable {W w w' : World}
def dV (s : Sc) : Value := .slice s.dp s.data.length s.dc
def rV (s : Sc) : Value := .slice s.rp s.rel.length s.rc
theorem ERel : Elem Try.prog 38 54 4 32 (.agg #[.int .i64 0, .int .i64 0, .int .i64 0, .int .i64 0]) := Elem.mk' Try.underlying38 (by kernel_rfl) rfl (by decide)
theorem ESym : Elem Try.prog 23 36 4 40 (.agg #[.string ⟨#[]⟩, .int .i64 0, .int .i64 0, .bool false]) := Elem.mk' Try.underlying23 (by kernel_rfl) rfl (by decide)
theorem ESec : Elem Try.prog 22 40 6 88 (.agg #[.string ⟨#[]⟩, .int .i64 0, .int .i64 0, .int .i64 0, .slice none 0 0, .slice none 0 0]) := Elem.mk' Try.underlying22 (by kernel_rfl) rfl (by decide)
theorem rl_ones (l : List Rl) : ∀ u ∈ l.flatMap Rl.cells, u.oneCell' = true := fun u hu => by
  obtain ⟨c, _, h⟩ := List.mem_flatMap.1 hu
  simp [Rl.cells] at h
  rcases h with rfl | rfl | rfl | rfl <;> rfl
theorem sy_ones (l : List Sy) : ∀ u ∈ l.flatMap Sy.cells, u.oneCell' = true := fun u hu => by
  obtain ⟨c, _, h⟩ := List.mem_flatMap.1 hu
  simp [Sy.cells] at h
  rcases h with rfl | rfl | rfl | rfl <;> rfl
theorem sc_ones (l : List Sc) : ∀ u ∈ l.flatMap Sc.cells, u.oneCell' = true := fun u hu => by
  obtain ⟨c, _, h⟩ := List.mem_flatMap.1 hu
  simp [Sc.cells] at h
  rcases h with rfl | rfl | rfl | rfl | rfl | rfl <;> rfl
/-- A section whose bytes and relocations are of the call's own. -/
structure FrS (B : Nat) (w : World) (s : Sc) : Prop where
  data : w.ownsRow B 5 1 (dV s) s.data.length (s.data.map (Value.int .u8))
  rel : w.ownsRow B 54 4 (rV s) s.rel.length (s.rel.flatMap Rl.cells)
/-- An object whose sections and symbols are of the call's own, the first k sections' bytes and relocations too. -/
structure FrV (B : Nat) (w : World) (sv yv : Value) (secs : List Sc) (syms : List Sy) (k : Nat) : Prop where
  os : w.ownsRow B 40 6 sv secs.length (secs.flatMap Sc.cells)
  oy : w.ownsRow B 36 4 yv syms.length (syms.flatMap Sy.cells)
  each : ∀ i s, i < k → secs[i]? = some s → FrS B w s
  ap : ∀ i j s t, i ≠ j → i < k → j < k → secs[i]? = some s → secs[j]? = some t → Apart (dV s) (dV t) ∧ Apart (rV s) (rV t)
abbrev FrO (B : Nat) (w : World) (gs gy : Nat) (secs : List Sc) (syms : List Sy) (k : Nat) : Prop := FrV B w (.slice (some ⟨gs, 0, none⟩) secs.length secs.length) (.slice (some ⟨gy, 0, none⟩) syms.length syms.length) secs syms k
variable {B gs gy k : Nat} {secs : List Sc} {syms : List Sy} {sv yv : Value}
def isO (x : Nat) : Prop := x = 5 + 1 ∨ x = 54 + 1 ∨ x = 40 + 1 ∨ x = 36 + 1
theorem FrS.lies {s : Sc} (h : FrS B w s) (hl : Lies B isO w w') : FrS B w' s := ⟨hl.own h.data (.inl rfl), hl.own h.rel (.inr (.inl rfl))⟩
theorem FrV.lies (h : FrV B w sv yv secs syms k) (hl : Lies B isO w w') : FrV B w' sv yv secs syms k :=
  ⟨hl.own h.os (.inr (.inr (.inl rfl))), hl.own h.oy (.inr (.inr (.inr rfl))), fun i s hi hs => (h.each i s hi hs).lies hl, h.ap⟩
theorem FrV.below (h : FrV B w sv yv secs syms k) (hB : B ≤ w.heap.size) (hb : Below w.heap.size w w') : FrV B w' sv yv secs syms k := h.lies (Lies.below _ hb hB)
theorem FrO.lies (h : FrO B w gs gy secs syms k) (hl : Lies B isO w w') : FrO B w' gs gy secs syms k := FrV.lies h hl
theorem FrO.base (h : FrO B w gs gy secs syms k) : B ≤ gs ∧ gs < w.heap.size ∧ B ≤ gy ∧ gy < w.heap.size :=
  ⟨own_ge h.os gs rfl, own_lt h.os gs rfl, own_ge h.oy gy rfl, own_lt h.oy gy rfl⟩
theorem FrO.below (h : FrO B w gs gy secs syms k) (hb : Below w.heap.size w w') : FrO B w' gs gy secs syms k := h.lies (Lies.below _ hb (by have := h.base; omega))
theorem set_flat {α : Type} (f : α → List Value) (m : Nat) (hk : ∀ x, (f x).length = m) : ∀ (l : List α) (k j : Nat) (x : α) (v : Value), l[k]? = some x → j < m → ∀ y, f y = (f x).set j v → (l.flatMap f).set (k * m + j) v = (l.set k y).flatMap f
  | [], _, _, _, _, h, _, _, _ => by simp at h
  | a :: l, 0, j, x, v, h, hj, y, hy => by
    simp at h; subst h
    simp only [List.set_cons_zero, List.flatMap_cons, Nat.zero_mul, Nat.zero_add]
    rw [List.set_append_left _ _ (by rw [hk]; exact hj), hy]
  | a :: l, k + 1, j, x, v, h, hj, y, hy => by
    simp at h
    simp only [List.set_cons_succ, List.flatMap_cons]
    rw [List.set_append_right _ _ (by rw [hk, Nat.succ_mul]; omega), hk, show (k + 1) * m + j - m = k * m + j by rw [Nat.succ_mul]; omega, set_flat f m hk l k j x v h hj y hy]
/-- bytes.Clone. -/
theorem bclone_any (p : Option Addr) (c : Nat) (l : List Int) (w : World) (hrow : Row w p (l.map (Value.int .u8))) (hl : l.length ≤ 140737488351232) :
    Calls Try.prog 54 #[.slice p l.length c] w fun e w' => ∃ p2 c2, e = .returned (.slice p2 l.length c2) ∧ w'.ownsRow w.heap.size 5 1 (.slice p2 l.length c2) l.length (l.map (Value.int .u8)) ∧ Below w.heap.size w w' := by
  cases p with
  | none =>
    have h0 : l = [] := by
      apply Classical.byContradiction
      intro hne
      have := List.length_pos_iff.2 hne
      obtain ⟨b, o, e, _⟩ := hrow.at (by simpa using this)
      cases e
    subst h0
    refine (Try.bytes_Clone_nil _ _ w).mono ?_
    rintro e w' ⟨rfl, rfl⟩
    exact ⟨none, 0, rfl, World.ownsRow_nil _ _ _ _, Below.refl _ _⟩
  | some a =>
    refine (Try.bytes_Clone_at a l.length c l w rfl (by omega) (fun i hi => ?_)).mono ?_
    · obtain ⟨b, o, e, hc⟩ := hrow (by intro e; rw [List.map_eq_nil_iff] at e; subst e; simp at hi)
      cases e
      rw [addr_add, hc i (by simpa using hi)]
      simp [List.getD_eq_getElem?_getD, hi]
    · rintro e w' ⟨v, rfl, ho, -, hb⟩
      obtain ⟨p2, c2, rfl, -⟩ := own_shape ho
      exact ⟨p2, c2, rfl, ho, hb⟩
/-- slices.Clone of relocations. -/
theorem rclone_any (p : Option Addr) (c : Nat) (l : List Rl) (w : World) (hrow : Row w p (l.flatMap Rl.cells)) (hl : l.length ≤ 4398046510976) (hp : p = none → c = 0) (hlc : l.length ≤ c) :
    Calls Try.prog 55 #[.slice p l.length c] w fun e w' => ∃ p2 c2, e = .returned (.slice p2 l.length c2) ∧ w'.ownsRow w.heap.size 54 4 (.slice p2 l.length c2) l.length (l.flatMap Rl.cells) ∧ Below w.heap.size w w' := by
  have hcl := flat_len Rl.cells 4 (fun _ => rfl) l
  cases p with
  | none =>
    have hc := hp rfl
    subst hc
    have h0 : l = [] := List.eq_nil_of_length_eq_zero (by omega)
    subst h0
    have hnil := fun (w : World) => Lib.run_eql_slice_nil (P := Try.prog) w 38 54 none 0 0 0 0 Try.underlying38
    go_enter Try.func55, Try.ntmps55
    go_wp2
    go_ret
    exact ⟨none, 0, rfl, World.ownsRow_nil _ _ _ _, Below.refl _ _⟩
  | some a =>
    have hnil := fun (w : World) (n c : Nat) => Lib.run_eql_slice_nil (P := Try.prog) w 38 54 (some a) n c 0 0 Try.underlying38
    have HCL := hid hcl
    clear hcl
    go_enter Try.func55, Try.ntmps55
    go_wp2_with ((with_reducible show wpList _ _ _ (⟨some 7, _, _, _, _, _⟩ :: _) _ _); go_loud (refine wpList_app ERel rfl _ _ rfl w.heap.size _ 0 [] rfl (own_new w [] 54 w.heap.size 0 4 (Nat.le_refl _) rfl (by decide)) _ _ _ (l.flatMap Rl.cells) rfl (by rw [HCL.out]; omega) hp (hrow.alloc _) (rl_ones l) (by unfold maxLen; omega) (by omega) (by simp) ?_); intro v2 w2 ho2 hg2 hs2; rw [Nat.zero_add, List.nil_append] at ho2)
    have hg2 : (w.alloc (.cells #[] 54)).grownBy w2 (some w.heap.size) := hg2
    go_ret
    obtain ⟨p2, c2, rfl, -⟩ := own_shape ho2
    exact ⟨p2, c2, rfl, ho2, ((Below.refl _ _).alloc (Nat.le_refl _) _).grown hg2 (by simp) (by rintro k e; cases e; exact Nat.le_refl _)⟩
/-- slices.Clone of symbols. -/
theorem yclone_any (p : Option Addr) (c : Nat) (l : List Sy) (w : World) (hrow : Row w p (l.flatMap Sy.cells)) (hl : l.length ≤ 1000000000) (hp : p = none → c = 0) (hlc : l.length ≤ c) :
    Calls Try.prog 32 #[.slice p l.length c] w fun e w' => ∃ p2 c2, e = .returned (.slice p2 l.length c2) ∧ w'.ownsRow w.heap.size 36 4 (.slice p2 l.length c2) l.length (l.flatMap Sy.cells) ∧ Below w.heap.size w w' := by
  have hcl := flat_len Sy.cells 4 (fun _ => rfl) l
  cases p with
  | none =>
    have hc := hp rfl
    subst hc
    have h0 : l = [] := List.eq_nil_of_length_eq_zero (by omega)
    subst h0
    have hnil := fun (w : World) => Lib.run_eql_slice_nil (P := Try.prog) w 23 36 none 0 0 0 0 Try.underlying23
    go_enter Try.func32, Try.ntmps32
    go_wp2
    go_ret
    exact ⟨none, 0, rfl, World.ownsRow_nil _ _ _ _, Below.refl _ _⟩
  | some a =>
    have hnil := fun (w : World) (n c : Nat) => Lib.run_eql_slice_nil (P := Try.prog) w 23 36 (some a) n c 0 0 Try.underlying23
    have HCL := hid hcl
    clear hcl
    go_enter Try.func32, Try.ntmps32
    go_wp2_with ((with_reducible show wpList _ _ _ (⟨some 7, _, _, _, _, _⟩ :: _) _ _); go_loud (refine wpList_app ESym rfl _ _ rfl w.heap.size _ 0 [] rfl (own_new w [] 36 w.heap.size 0 4 (Nat.le_refl _) rfl (by decide)) _ _ _ (l.flatMap Sy.cells) rfl (by rw [HCL.out]; omega) hp (hrow.alloc _) (sy_ones l) (by unfold maxLen; omega) (by omega) (by simp) ?_); intro v2 w2 ho2 hg2 hs2; rw [Nat.zero_add, List.nil_append] at ho2)
    have hg2 : (w.alloc (.cells #[] 36)).grownBy w2 (some w.heap.size) := hg2
    go_ret
    obtain ⟨p2, c2, rfl, -⟩ := own_shape ho2
    exact ⟨p2, c2, rfl, ho2, ((Below.refl _ _).alloc (Nat.le_refl _) _).grown hg2 (by simp) (by rintro k e; cases e; exact Nat.le_refl _)⟩
end Go.Proofs.Yteccpmmedpkddaa
