/-
  What Cells of a machine of lists holds between two rounds, in plain words.
  Append and make at the operation, within a fence.
  Cells of a machine of lists.
-/
import Derived.Test.YthmockfeffikjaaJK3
import Derived.OwnWalkIn
import Derived.Laws.AppendOwnNone
import Derived.Test.YthmockfeffikjaaJE2
import Derived.Test.YthmockfeffikjaaJE19
namespace Go.Proofs.Ythmockfeffikjaa
open Go.RowKit
variable {W w w1 w2 w3 w4 W' : World} {base d : Nat} {hd : Value → Int → Obj} {v v' : Value} {ys : List CeR} {S : Mem} {fp : Nat → Prop}

/-- A memory behind an append of a cell whose slice is not in its footprint. -/
theorem MemIs.push2 (H : MemIs w base d hd v ys S fp) (hB : Below w.heap.size w w2) (y : CeR) (hok : okP y.x = true) (hs : SlAt w2 y.p y.c y.x.came) (hp : ∀ q, y.p = some q → ¬ fp q.block ∧ q.block < w2.heap.size)
    {n : Nat} (hn : n = ys.length + 1) (hown : w3.ownsRow base 30 7 v' n (ceRow ys ++ CeR.cells y)) (hg : w2.grownBy w3 v.ownBlock) (hst : Stayed w2 v v') (m : Int)
    (h4d : w4.heap[d]? = some (hd v' m)) (h4 : ∀ j, j ≠ d → w4.heap[j]? = w3.heap[j]?) (h4s : w4.heap.size = w3.heap.size) :
    MemIs w4 base d hd v' (ys ++ [y]) ⟨S.cs ++ [y.x], m⟩ (fun j => fp j ∨ (∃ q, y.p = some q ∧ j = q.block) ∨ (w.heap.size ≤ j ∧ j < w4.heap.size)) := by
  have hdl := H.lt _ H.fd
  have hvl := fun g hg => H.lt g (H.fv g hg)
  have hs2 := hB.size
  have hs3 := hg.size
  have hqd : ∀ q, y.p = some q → q.block ≠ d := fun q e e2 => (hp q e).1 (by rw [e2]; exact H.fd)
  have hqv : ∀ q, y.p = some q → v.ownBlock ≠ some q.block := fun q e e2 => (hp q e).1 (H.fv _ e2)
  have hgd : ∀ g, v'.ownBlock = some g → g ≠ d := fun g hg' e => by
    subst e
    rcases hst _ hg' with h | h
    · exact H.nd h
    · omega
  have near : ∀ j, j < w2.heap.size → j ≠ d → v.ownBlock ≠ some j → w4.heap[j]? = w2.heap[j]? := fun j hj hjd hjv => (h4 j hjd).trans (hg.block j hj (fun e => hjv e.symm))
  have olds : ∀ z ∈ ys, ∀ q, z.p = some q → q.block < w.heap.size := fun z hz q e => H.lt _ (H.fs z hz q e)
  refine ⟨?_, fun z hz => ?_, h4d, ?_, fun z hz => ?_, .inl H.fd, fun g hg' => ?_, fun z hz q e => ?_, fun e => hgd d e rfl, fun z hz q e => ?_, fun k hk => ?_, H.bd⟩
  · rw [List.map_append, ← H.cs]; rfl
  · rcases List.mem_append.1 hz with h | h
    · exact H.ok z h
    · rw [List.mem_singleton.1 h]; exact hok
  · rw [ceRow_snoc, List.length_append, List.length_singleton, ← hn]
    exact own_blk hown (fun g hg' => h4 g (hgd g hg'))
  · rcases List.mem_append.1 hz with h | h
    · refine (H.sl z h).blk (fun q e => ?_)
      have h1 := olds z h q e
      have h2 := H.ap z h q e
      exact (near _ (by omega) h2.1 h2.2).trans (hB.block _ h1)
    · rw [List.mem_singleton.1 h]
      exact hs.blk (fun q e => near _ (hp q e).2 (hqd q e) (hqv q e))
  · rcases hst g hg' with h | h
    · exact .inl (H.fv g h)
    · have := own_lt hown g hg'; exact .inr (.inr ⟨by omega, by omega⟩)
  · rcases List.mem_append.1 hz with h | h
    · exact .inl (H.fs z h q e)
    · rw [List.mem_singleton.1 h] at e
      exact .inr (.inl ⟨q, e, rfl⟩)
  · rcases List.mem_append.1 hz with h | h
    · refine ⟨(H.ap z h q e).1, fun e2 => ?_⟩
      rcases hst _ e2 with h3 | h3
      · exact (H.ap z h q e).2 h3
      · have := olds z h q e; omega
    · rw [List.mem_singleton.1 h] at e
      refine ⟨hqd q e, fun e2 => ?_⟩
      rcases hst _ e2 with h3 | h3
      · exact hqv q e h3
      · have := (hp q e).2; omega
  · rcases hk with h | ⟨q, e, rfl⟩ | h
    · have := H.lt k h; omega
    · have := (hp q e).2; omega
    · exact h.2

/-- What Cells holds between two rounds: the row that is made, in the variable's block dc; B: the rounds' book-keeping. -/
structure CrI (w : World) (dc B : Nat) (pre : List (Int × CeR)) (T : Nat → Prop) (hs : Nat) (W : World) (v : Value) (zs : List CeR) (fp : Nat → Prop) : Prop where
  b : Below w.heap.size w W
  m : MemIs W w.heap.size dc hdL v zs ⟨pre.map (·.2.x), 0⟩ fp
  len : zs.length = pre.length
  f : ∀ k, fp k → k < hs ∧ (k = dc ∨ B + 2 ≤ k)
  td : ¬ T dc
  tv : ∀ g, v.ownBlock = some g → ¬ T g
  lt : ∀ k, T k → k < hs
  hl : hs ≤ W.heap.size
  dp : dc < B
  Bh : B + 2 ≤ hs
def CrJ (w : World) (dc B : Nat) (pre : List (Int × CeR)) (T : Nat → Prop) (hs : Nat) (W : World) : Prop := ∃ v zs fp, CrI w dc B pre T hs W v zs fp
variable {dc B hs hs' l : Nat} {pre : List (Int × CeR)} {T : Nat → Prop} {zs : List CeR}
theorem CrJ.later (h : CrJ w dc B pre T hs W) (h' : StM W W') : CrJ w dc B pre T hs W' := by
  obtain ⟨v, zs, fp, h⟩ := h
  exact ⟨v, zs, fp, h.b.trans (h'.mono h.b.size), h.m.below h', h.len, h.f, h.td, h.tv, h.lt, Nat.le_trans h.hl h'.size, h.dp, h.Bh⟩
theorem CrJ.putObj {r : Loop} (h : CrJ w dc B pre T hs W) (hl : W.heap[B + 1]? = some (.loop r)) (o : Obj) : CrJ w dc B pre T hs (W.putObj (B + 1) o) := by
  obtain ⟨v, zs, fp, h⟩ := h
  have hd := h.dp
  have := h.m.bd
  exact ⟨v, zs, fp, Below.putObjB h.b h.b.size (by omega) o, h.m.kept (fun k hk => World.putObj_heap_other (by have := h.f k hk; omega)) (by simp), h.len, h.f, h.td, h.tv, h.lt, by simpa using h.hl, h.dp, h.Bh⟩
theorem CrJ.up (h : CrJ w dc B pre T hs W) (h1 : hs ≤ hs') (h2 : hs' ≤ W.heap.size) : CrJ w dc B pre T hs' W := by
  obtain ⟨v, zs, fp, h⟩ := h
  exact ⟨v, zs, fp, h.b, h.m, h.len, fun k hk => ⟨Nat.lt_of_lt_of_le (h.f k hk).1 h1, (h.f k hk).2⟩, h.td, h.tv, fun k hk => Nat.lt_of_lt_of_le (h.lt k hk) h1, h2, h.dp, Nat.le_trans h.Bh h1⟩
/-- A round: W1 ahead of the append, w2 with the element in a block of its own, w3 behind the append, the slice stored. -/
theorem CrI.push (h : CrI w dc B pre T hs W v zs fp) {W0 : Nat} (hW0 : hs ≤ W0) (hW : W0 < W.heap.size) (hB : Below W.heap.size W w2) {k : Int} {x : Ce} {p : Option Addr} {c : Nat} (hok : okP x = true) (hsl : SlAt w2 p c x.came) (hp : ∀ q, p = some q → hs ≤ q.block ∧ q.block < W0)
    (hown : w3.ownsRow w.heap.size 30 7 v' (zs.length + 1) (ceRow zs ++ CeR.cells ⟨x, p, c⟩)) (hg : w2.grownBy w3 v.ownBlock) (hst : Stayed w2 v v')
    (hd3 : w3.heap[dc]? = some (hdL v 0)) :
    CrJ w dc B (pre ++ [(k, ⟨x, p, c⟩)]) (fun j => T j ∨ (hs ≤ j ∧ j < W0)) (w3.setCell ⟨dc, 0, none⟩ v').heap.size (w3.setCell ⟨dc, 0, none⟩ v') ∧ KeepsT (fun j => (T j ∨ (hs ≤ j ∧ j < W0)) ∨ j = B ∨ j = B + 1) W (w3.setCell ⟨dc, 0, none⟩ v') := by
  have hdp := h.dp
  have hs2 := hB.size
  have hs3 := hg.size
  have hBh := h.Bh
  have hhs := h.hl
  have hbd := h.m.bd
  have hvB : ∀ g, v.ownBlock = some g → g < hs ∧ B + 2 ≤ g := fun g hg => by
    have h1 := h.f g (h.m.fv g hg)
    refine ⟨h1.1, h1.2.resolve_left (fun e => h.m.nd (by rw [← e]; exact hg))⟩
  have hM := h.m.push2 hB ⟨x, p, c⟩ hok hsl (fun q hq => ⟨fun hf => by have := (h.f _ hf).1; have := (hp q hq).1; omega, by have := (hp q hq).2; omega⟩) rfl hown hg hst 0 (w4 := w3.setCell ⟨dc, 0, none⟩ v')
    (heap_setCell_same w3 dc 0 _ _ _ hd3) (fun j hj => Below.heap_setCell _ _ _ _ hj) (by simp)
  have hsz : (w3.setCell ⟨dc, 0, none⟩ v').heap.size = w3.heap.size := by simp
  have hvw : ∀ j, v.ownBlock = some j → w.heap.size ≤ j := fun j e => by have := hvB j e; omega
  refine ⟨⟨v', zs ++ [⟨x, p, c⟩], fun j => fp j ∨ (∃ q, p = some q ∧ j = q.block) ∨ (W.heap.size ≤ j ∧ j < (w3.setCell ⟨dc, 0, none⟩ v').heap.size), ?_, ?_, by simp [h.len], fun j hj => ?_, ?_, fun g hg' => ?_, fun j hj => ?_, Nat.le_refl _, hdp, by omega⟩, ?_⟩
  · exact ((h.b.trans (hB.mono h.b.size)).grown hg (by have := h.b.size; omega) (fun j e => hvw j e)).setCell (show w.heap.size ≤ dc by omega) _
  · have : (pre ++ [(k, (⟨x, p, c⟩ : CeR))]).map (·.2.x) = pre.map (·.2.x) ++ [x] := by simp
    rw [this]; exact hM
  · rw [hsz]
    rcases hj with hj | ⟨q, e, rfl⟩ | hj
    · have := h.f j hj; exact ⟨by omega, this.2⟩
    · have := hp q e; exact ⟨by omega, .inr (by omega)⟩
    · rw [hsz] at hj; exact ⟨hj.2, .inr (by omega)⟩
  · rintro (h3 | h3)
    · exact h.td h3
    · omega
  · rcases hst g hg' with h3 | h3
    · rintro (h4 | h4)
      · exact h.tv g h3 h4
      · have := hvB g h3; omega
    · rintro (h4 | h4)
      · have := h.lt g h4; omega
      · omega
  · rcases hj with h3 | h3
    · have := h.lt j h3; omega
    · omega
  · refine ((KeepsT.below hB).trans (KeepsT.grown hg (fun g e => ?_))).trans (KeepsT.setCell w3 _ _ ?_)
    · have hv := hvB g e
      rintro ((h3 | h3) | h3 | h3)
      · exact h.tv g e h3
      · omega
      · omega
      · omega
    · rintro ((h3 | h3) | h3 | h3)
      · exact h.td h3
      · have h4 : hs ≤ dc := h3.1; omega
      · have h4 : dc = B := h3; omega
      · have h4 : dc = B + 1 := h3; omega
end Go.Proofs.Ythmockfeffikjaa
namespace Go.Proofs.Ythmockfeffikjaa
open Go.RowKit
variable {P : Program} {w : World} {t e : TypeId} {size bytes : Nat} {z : Value} {ops : Array Oper} {rest : List Oper} {o : Oper} {a : Act} {Q : Exit → Act → World → Prop}

/-- 'append(v, x...)', the one operation: v the call's own, x any row. -/
theorem operIn_app {K : Act → World → Prop} {F : Fence} {fn : Nat} (E : Elem P t e size bytes z) (s x : Operand)
    (ho : o.op = .call { callee := .builtin .append, args := #[s, x], argTypes := #[t, t] })
    (base : Nat) (v : Value) (n : Nat) (xs : List Value) (hs : a.eval s = v) (hown : w.ownsRow base e size v n xs)
    (p : Option Addr) (m c : Nat) (news : List Value) (hx : a.eval x = .slice p m c) (hl : news.length = m * size) (hnil : p = none → c = 0) (hrow : Row w p news) (h1 : ∀ u ∈ news, u.oneCell' = true)
    (h63 : n + m ≤ maxLen) (hbytes : (n + m) * bytes ≤ 140737488355328) (hbase : base ≤ w.heap.size)
    (h : ∀ v' w', w'.ownsRow base e size v' (n + m) (xs ++ news) → w.grownBy w' v.ownBlock → Stayed w v v' → K (a.put o.dst v') w') : Oper.wpIn F fn P o a w K Q := by
  obtain ⟨i, hi, hz, hsz, hby⟩ := E.info
  cases p with
  | none =>
    have hc : c = 0 := hnil rfl
    subst hc
    have hn : news = [] := by
      apply Classical.byContradiction
      intro hne
      obtain ⟨b, o, e1, _⟩ := hrow hne
      cases e1
    subst hn
    have hm : m = 0 := by
      have := E.pos
      have hl' : 0 = m * size := hl
      rcases Nat.mul_eq_zero.1 hl'.symm with h0 | h0
      · exact h0
      · omega
    subst hm
    have hr := run_append_owned_none (P := P) (w := w) base t o.type e i size E.desc hi v n xs hown
    unfold Oper.wpIn
    refine ⟨?_, ?_⟩
    · simp [Oper.about, ho, resolve, Target.leads, Sem.run_pure]
    · rw [Oper.semAt_plain F _ _ (by rw [ho]; intro c hc'; cases hc')]
      simp [execOp, ho, resolve, invoke, builtin, hs, hx, hr, Result.andThen]
      exact (h v w (by simpa using hown) (World.grownBy.refl _ _) (fun g hg => .inl hg))
  | some ad =>
    have hnews : ∀ j u, news[j]? = some u → w.cell? (ad.add j) = some u := by
      intro j u hj
      have hjl : j < news.length := (List.getElem?_eq_some_iff.1 hj).1
      obtain ⟨b, o, e1, hc⟩ := hrow (by intro e1; rw [e1] at hjl; simp at hjl)
      cases e1
      rw [addr_add, hc j hjl]
      rw [List.getElem?_eq_getElem hjl] at hj
      exact hj
    obtain ⟨v', w', hr, h2, h3, _⟩ := run_append_own (P := P) w base t o.type e i z size bytes E.desc hi hz hsz hby E.cells E.pos v n xs hown ad m c news hl hnews h1 h63 hbytes hbase
    have h4 := app_stayed E o.type base v n xs hown ad m c news hl hnews h1 h63 hbytes hr
    unfold Oper.wpIn
    refine ⟨?_, ?_⟩
    · simp [Oper.about, ho, resolve, Target.leads, Sem.run_pure]
    · rw [Oper.semAt_plain F _ _ (by rw [ho]; intro c hc'; cases hc')]
      simp [execOp, ho, resolve, invoke, builtin, hs, hx, hr, Result.andThen]
      exact (h v' w' h2 h3 h4)

/-- The same for the walk. -/
theorem wpListIn_app {F : Fence} {fn : Nat} (E : Elem P t e size bytes z) (hgd : o.guard = none) (s x : Operand)
    (ho : o.op = .call { callee := .builtin .append, args := #[s, x], argTypes := #[t, t] })
    (base : Nat) (v : Value) (n : Nat) (xs : List Value) (hs : a.eval s = v) (hown : w.ownsRow base e size v n xs)
    (p : Option Addr) (m c : Nat) (news : List Value) (hx : a.eval x = .slice p m c) (hl : news.length = m * size) (hnil : p = none → c = 0) (hrow : Row w p news) (h1 : ∀ u ∈ news, u.oneCell' = true)
    (h63 : n + m ≤ maxLen) (hbytes : (n + m) * bytes ≤ 140737488355328) (hbase : base ≤ w.heap.size)
    (h : ∀ v' w', w'.ownsRow base e size v' (n + m) (xs ++ news) → w.grownBy w' v.ownBlock → Stayed w v v' → wpListIn F fn P ops Q rest (a.put o.dst v') w') : wpListIn F fn P ops Q (o :: rest) a w :=
  wpListIn_plain hgd fun K hK => operIn_app E s x ho base v n xs hs hown p m c news hx hl hnil hrow h1 h63 hbytes hbase (fun v' w' a b c => hK _ _ (h v' w' a b c))

/-- 'make([]T, n)' at the operation, within a fence. -/
theorem wpListIn_mkfull {F : Fence} {fn : Nat} (E : Elem P t e size bytes z) (hgd : o.guard = none) (l c : Operand) (ho : o.op = .makeSlice t l c) (base : Nat) (kl kc : IntKind) (L C : Int) (n : Nat) (hl : a.eval l = .int kl L) (hc : a.eval c = .int kc C) (hL : L = (n : Int)) (hC : C = (n : Int))
    (hb : bytes * n ≤ 281474976710656) (hm : n ≤ maxLen) (hbase : base ≤ w.heap.size)
    (h : ∀ w', w'.ownsRow base e size (.slice (some ⟨w.heap.size, 0, none⟩) n n) n (madeCells z.cells (n * size)).toList → w.grownBy w' none → wpListIn F fn P ops Q rest (a.put o.dst (.slice (some ⟨w.heap.size, 0, none⟩) n n)) w') : wpListIn F fn P ops Q (o :: rest) a w := by
  obtain ⟨i, hi, hz, hsz, hby⟩ := E.info
  refine wpListIn_plain hgd fun K hK' => ?_
  obtain ⟨w', hrun, r1, r2⟩ := run_make_full (P := P) w base t e i z size E.desc hi hz hsz kl kc n (by rw [hby]; exact hb) hm hbase
  subst hL
  subst hC
  unfold Oper.wpIn
  refine ⟨?_, ?_⟩
  · simp [Oper.about, ho]
  · rw [Oper.semAt_plain F _ _ (by rw [ho]; intro c hc'; cases hc')]
    simp [execOp, ho, hl, hc, hrun, Result.andThen]
    exact hK' _ _ (h w' r1 r2)

/-- A nil slice that is owned has no room. -/
theorem own_nilcap {w : World} {base : Nat} {e : TypeId} {size : Nat} {p : Option Addr} {n m c : Nat} {xs : List Value} (h : w.ownsRow base e size (.slice p m c) n xs) : p = none → c = 0 := by
  intro hp
  subst hp
  rcases h.2 with ⟨hv, _⟩ | ⟨g, cap, cur, hv, _⟩
  · cases hv; rfl
  · cases hv
end Go.Proofs.Ythmockfeffikjaa
namespace Go.Proofs.Ythmockfeffikjaa
open Go.RowKit
attribute [local go_sem] Oper.semAt_some
attribute [local go_sem] wide_fnM wide_depthM
variable {w W w' : World} {base L : Nat} {S : SL} {fc fw : Nat → Prop}

def CellsTell (w : World) (cs : List Ce) (e : Ending) (w' : World) : Prop :=
  ∃ p c zs, e = .returned (.slice p zs.length c) ∧ zs.map CeR.x = cs ∧ zs.length ≤ c ∧ c ≤ maxLen ∧ Row w' p (ceRow zs) ∧ (∀ z ∈ zs, SlAt w' z.p z.c z.x.came) ∧ Below w.heap.size w w'
theorem LM.m0 (H : LM w base L S fc fw) : ∃ d fm, w.cell? ⟨L, 0, none⟩ = some (.pointer (some ⟨d, 0, none⟩)) ∧ L < w.heap.size ∧ MMach w base d hdM S.mem fm ∧ S.mem.cs.length ≤ 4096 := by
  obtain ⟨fm, fa, dm, wp, wc, ws, ap, ac, cs, h, _⟩ := H
  obtain ⟨c0, _, _, hl⟩ := h.cells
  exact ⟨dm, fm, c0, hl, h.mem, h.n2⟩
theorem MMach.oks {d : Nat} {hd : Value → Int → Obj} {M : Mem} {fp : Nat → Prop} (H : MMach w base d hd M fp) : ∀ x ∈ M.cs, okP x = true := by
  obtain ⟨v, ys, h⟩ := H
  rw [h.cs]
  intro x hx
  obtain ⟨z, hz, rfl⟩ := List.mem_map.1 hx
  exact h.ok z hz

set_option maxRecDepth 100000 in
set_option maxHeartbeats 4000000 in
theorem lcells_any (H : LM w base L S fc fw) : Calls Try.prog 28 #[.pointer (some ⟨L, 0, none⟩)] w (CellsTell w S.mem.cs) := by
  obtain ⟨d, fm, c0, hl, hmm, hlen⟩ := H.m0
  have HOKS := hid hmm.oks
  have HAL := hid (fun w1 (hb : Below w.heap.size w w1) => all_any (hmm.below hb) (by omega))
  clear H hmm
  have HB0 : Hid (Below w.heap.size w (w.alloc (.cells #[.slice none 0 0] 25))) := (Below.refl _ _).alloc (Nat.le_refl _) _
  unfold AllTell at HAL
  refine callsIn_wide.1 (?_ : CallsIn Fence.wide 5 Try.prog 28 #[.pointer (some ⟨L, 0, none⟩)] w _)
  refine callsIn_of_wp_marks Try.func28 rfl (show Fence.wide.fn 28 from trivial) ?_ rfl
  simp only [Try.ntmps28, List.size_toArray, List.length_cons, List.length_nil, Nat.reduceAdd, Nat.reduceSub, Array.replicate_succ, Array.replicate_zero, List.push_toArray, List.append_toArray, List.nil_append, List.cons_append]
  gi_wp2_with (gi_at_call 45; refine (callsIn_wide.2 (HAL.out _ HB0.out)).mono ?_; rintro e w2 ⟨v2, zs, rfl, hm2, hb2⟩; simp only [World.size_alloc] at hm2; have HM2 := hid hm2; have HB2 := hid hb2; clear hm2 hb2)
  have hb2w := HB2.out.size
  have hz2 : w.heap.size + 1 ≤ w2.heap.size := by simpa using hb2w
  have hseq := all1_seq 4 (by omega) HM2.out (by omega)
  have hHl := HM2.out.lt _ HM2.out.fd
  try simp only [World.size_alloc]
  refine wpIn_rangeFunc_VA rfl (by omega) (gf := 53) (lb := #[.pointer (some ⟨w.heap.size + 1, 0, none⟩)]) rfl trivial (enters_of Try.func53 (by kernel_rfl) rfl) hseq (Below.refl _ _) (fun _ => rfl)
    (fun k hk => HM2.out.lt k hk)
    (fun W W' h k o hk _ _ => (h.block k (Array.getElem?_eq_some_iff.1 hk).1).trans hk)
    (fun pre hs x W l r o h hl => ⟨h.1, h.2.1, ⟨h.2.2.1.1, h.2.2.1.2.1, h.2.2.1.2.2.1, h.2.2.1.2.2.2.putObj hl o⟩, fun q hq => by have := h.2.2.2 q hq; simpa using this⟩)
    (CrJ w w.heap.size w2.heap.size) (fun _ _ _ => False) (fun pre T hs W W' h hst => h.later hst) (fun _ _ _ _ h _ => h)
    (fun pre T hs W r o h hl => h.putObj hl o) (fun _ _ _ _ _ h _ => h) ?start
    ?acta (fun x W => W.alloc (.cells #[i64 x.2.x.kind, i64 x.2.x.n, i64 x.2.x.owner, i64 x.2.x.need, .slice x.2.p x.2.x.came.length x.2.c, i64 x.2.x.turns, .bool x.2.x.there] 30)) (fun x W => (Below.refl _ _).alloc (Nat.le_refl _) _) (fun x W => (Below.refl _ _).alloc (Nat.le_refl _) _)
    (fun pre hs x W h => ⟨h.1, h.2.1, h.2.2.1.alloc _, fun q hq => by have := h.2.2.2 q hq; simp; omega⟩) ?assigna ?bodya ?donea ?stopa
  case start =>
    intro r
    have hbA : Below w.heap.size w w2 := HB0.out.trans (HB2.out.mono (by simp))
    have e0 : w2.heap[w.heap.size]? = some (hdL (.slice none 0 0) 0) := (HB2.out.block _ (by simp)).trans (heap_alloc_new w _)
    have hb3 : Below w2.heap.size w2 ((w2.alloc (.deferred (some []))).alloc (.loop r)) := ((Below.refl _ _).alloc (Nat.le_refl _) _).alloc (by simp) _
    exact ⟨.slice none 0 0, [], fun k => k = w.heap.size, hbA.trans (hb3.mono hbA.size), ⟨rfl, fun y hy => (by cases hy), (hb3.block _ (by omega)).trans e0, World.ownsRow_nil _ _ _ _, fun y hy => (by cases hy), rfl, fun g hg => (by cases hg), fun y hy => (by cases hy), fun e => (by cases e), fun y hy => (by cases hy), fun k hk => (by subst hk; simp; omega), Nat.le_refl _⟩, rfl, fun k hk => ⟨by omega, .inl hk⟩, fun h => by omega, fun g hg => (by cases hg), fun k hk => by omega, by simp, by omega, Nat.le_refl _⟩
  case assigna =>
    intro l x W K hK
    unfold encC Ce.val
    gi_wp2
    exact hK
  case stopa => rintro c pre W _ h _; exact h.elim
  case bodya =>
    rintro l pre T hs x W0 r hI0 hV0 hI hV ⟨r', hl'⟩ hhs hsz hT
    clear hseq HAL c0
    have hz1 : ((W0.alloc (.cells #[i64 x.2.x.kind, i64 x.2.x.n, i64 x.2.x.owner, i64 x.2.x.need, .slice x.2.p x.2.x.came.length x.2.c, i64 x.2.x.turns, .bool x.2.x.there] 30)).putObj (w2.heap.size + 1) (.loop r)).heap.size = W0.heap.size + 1 := by simp
    have hC1 : CeBlk ((W0.alloc (.cells #[i64 x.2.x.kind, i64 x.2.x.n, i64 x.2.x.owner, i64 x.2.x.need, .slice x.2.p x.2.x.came.length x.2.c, i64 x.2.x.turns, .bool x.2.x.there] 30)).putObj (w2.heap.size + 1) (.loop r)) W0.heap.size x.2.x x.2.p x.2.c := (World.putObj_heap_other (by omega)).trans (ceblk_new W0 x.2.x x.2.p x.2.c)
    generalize (W0.alloc (.cells #[i64 x.2.x.kind, i64 x.2.x.n, i64 x.2.x.owner, i64 x.2.x.need, .slice x.2.p x.2.x.came.length x.2.c, i64 x.2.x.turns, .bool x.2.x.there] 30)).putObj (w2.heap.size + 1) (.loop r) = W1 at hI hV hz1 hC1 ⊢
    clear hl' hT
    obtain ⟨hx1, ⟨suf, hsuf⟩, hsl, _⟩ := hV
    have hq := hV0.2.2.2
    clear hV0
    obtain ⟨kx, y⟩ := x
    dsimp only at hx1 hsl hq hC1 hz1
    subst hx1
    have hok : okP y.x = true := HOKS.out _ (by rw [← hsuf]; simp)
    have hkl : pre.length < S.mem.cs.length := by rw [← hsuf]; simp
    obtain ⟨v, zs, fp2, hI⟩ := hI
    have hzl := hI.len
    have hwz : w.heap.size < W1.heap.size := by omega
    have hwz0 : W0.heap.size < W1.heap.size := by omega
    have h0 : hs ≤ W0.heap.size := by obtain ⟨_, _, _, h⟩ := hI0; exact h.hl
    clear hI0
    have HI := hid hI
    have HND : Hid (v.ownBlock ≠ some w.heap.size) := hI.m.nd
    have HD1 : Hid (W1.heap[w.heap.size]? = some (.cells #[v] 25 (0, 0))) := hI.m.head
    have d1 : W1.cell? ⟨w.heap.size, 0, none⟩ = some v := cell_of_row _ _ 0 _ _ _ HD1.out
    have HOWN : Hid (W1.ownsRow w.heap.size 30 7 v zs.length (ceRow zs)) := hI.m.own
    have HOK := hid hok
    have HSL := hid hsl
    have HQ2 := hid hq
    have HZ1 := hid hz1
    obtain ⟨⟨a0, a1, a2, a3, a4, a5, a6⟩, _, _⟩ := hC1.facts
    obtain ⟨⟨kind, m, owner, need, came, turns, there⟩, yp, yc⟩ := y
    dsimp only at *
    clear hI hok hsl hq hz1 hsuf hC1
    gi_wp2_with ((with_reducible show wpListIn _ _ _ _ _ (⟨some 18, _, _, _, _, _⟩ :: _) _ _); go_loud (refine wpListIn_app ECell rfl _ _ rfl w.heap.size v zs.length (ceRow zs) rfl (HOWN.out.alloc _) _ 1 1 (CeR.cells ⟨⟨kind, m, owner, need, came, turns, there⟩, yp, yc⟩) rfl rfl (by simp) (row_newAt _ _ _ _ (by simp)) (ceCells_one _) (by unfold maxLen; omega) (by omega) (by simp; omega) ?_); intro v4 w4 ho4 hg4 hs4; obtain ⟨vp4, vc4, rfl, _⟩ := own_row ho4; have HD4 : Hid (w4.heap[w.heap.size]? = some (hdL v 0)) := (hg4.block _ (by simp; omega) (fun e => HND.out e.symm)).trans ((Below.heap_alloc _ _ _ (by omega)).trans HD1.out); have d4 : w4.cell? ⟨w.heap.size, 0, none⟩ = some v := cell_of_row _ _ 0 _ _ _ HD4.out; have f4 : w4.frozen? ⟨w.heap.size, 0, none⟩ = false := frozen_of_row _ _ _ _ _ HD4.out; have HO4 := hid ho4; have HG4 := hid hg4; have HS4 := hid hs4; clear ho4 hg4 hs4)
    have hP := HI.out.push (k := pre.length) (W0 := W0.heap.size) h0 hwz0 (w2 := W1.alloc (.cells #[i64 kind, i64 m, i64 owner, i64 need, .slice yp came.length yc, i64 turns, .bool there] 30)) ((Below.refl _ _).alloc (Nat.le_refl _) _) HOK.out (HSL.out.alloc _) HQ2.out HO4.out HG4.out HS4.out HD4.out
    rw [hzl] at hP
    exact ⟨hP.2, hP.1⟩
  case donea =>
    rintro xs T hs W1 hS ⟨v, zs, fp2, hI⟩ hD
    have HI := hid hI
    have HS := hid hS
    have HD := hid hD
    have hp : W1.cell? ⟨w.heap.size, 0, none⟩ = some v := cell_of_row _ _ 0 _ _ _ hI.m.head
    clear hI hS hD hseq HAL c0
    obtain ⟨p, c, rfl, g1, g2, g3, _⟩ := own_row HI.out.m.own
    gi_wp2
    have hM := HI.out.m
    rw [HS.out] at hM
    have hfp := HI.out.f
    have hdp := HI.out.dp
    refine ⟨by simp, .inl ⟨_, _, rfl, run_takeDeferred HD.out, ?_⟩⟩
    have hM2 : MemIs (W1.putObj w2.heap.size (.deferred none)) w.heap.size w.heap.size hdL (.slice p zs.length c) zs ⟨S.mem.cs, 0⟩ fp2 := hM.kept (fun k hk => World.putObj_heap_other (by have := hfp k hk; omega)) (by simp)
    obtain ⟨p', c', e', g1', g2', g3', _⟩ := own_row hM2.own
    cases e'
    exact ⟨.slice p zs.length c, by simp [results, Try.results28, go_sem], p, c, zs, rfl, hM2.cs.symm, g1', g2', g3', hM2.sl, Below.putObjB HI.out.b HI.out.b.size (by omega) (.deferred none)⟩
end Go.Proofs.Ythmockfeffikjaa
