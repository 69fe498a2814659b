/-
  Append as one step of a region that draws its order.
  New of the code's memory.
  Do of the code's memory, without an error.
-/
import Derived.Deep.RegionLaw
import Derived.Test.YthmockfeffikjaaJE0
import Derived.Test.YthmockfeffikjaaJE12
import Derived.Test.YthmockfeffikjaaJE5
import Derived.StillTailTactics
namespace Go.Proofs.Ythmockfeffikjaa
open Go.RowKit
variable {P : Program} {w : World} {t e : TypeId} {size bytes : Nat} {z : Value} {ops : Array Oper} {o : Oper} {a : Act} {K : Act → World → Prop} {Q : Exit → Act → World → Prop} {C : Prop}
theorem step_app (E : Elem P t e size bytes z) (hgd : o.guard = none) (s x : Operand)
    (ho : o.op = .call { callee := .builtin .append, args := #[s, x], argTypes := #[t, t] })
    (base : Nat) (v : Value) (n : Nat) (xs : List Value) (hs : a.eval s = v) (hown : w.ownsRow base e size v n xs)
    (ad : Addr) (m c : Nat) (news : List Value) (hx : a.eval x = .slice (some ad) m c) (hl : news.length = m * size) (hrow : Row w (some ad) news) (h1 : ∀ u ∈ news, u.oneCell' = true)
    (h63 : n + m ≤ maxLen) (hbytes : (n + m) * bytes ≤ 140737488355328) (hbase : base ≤ w.heap.size)
    (h : ∀ v' w', w'.ownsRow base e size v' (n + m) (xs ++ news) → w.grownBy w' v.ownBlock → Stayed w v v' → K (a.put o.dst v') w') :
    if Region.wanted o (yielded ops a.tmps) = true then Oper.wp P o a w K Q else C := by
  have hw : Region.wanted o (yielded ops a.tmps) = true := by simp [Region.wanted, hgd]
  rw [if_pos hw]
  obtain ⟨i, hi, hz, hsz, hby⟩ := E.info
  have hnews : ∀ j u, news[j]? = some u → w.cell? (ad.add j) = some u := by
    intro j u hj
    have hjl : j < news.length := (List.getElem?_eq_some_iff.1 hj).1
    obtain ⟨b, o, e1, hc⟩ := hrow (by intro e1; rw [e1] at hjl; simp at hjl)
    cases e1
    rw [addr_add, hc j hjl]
    rw [List.getElem?_eq_getElem hjl] at hj
    exact hj
  obtain ⟨v', w', hr, h2, h3, _⟩ := run_append_own (P := P) w base t o.type e i z size bytes E.desc hi hz hsz hby E.cells E.pos v n xs hown ad m c news hl hnews h1 h63 hbytes hbase
  have h4 := app_stayed E o.type base v n xs hown ad m c news hl hnews h1 h63 hbytes hr
  unfold Oper.wp execOp
  simp only [ho, resolve, invoke, builtin, Sem.run_bind, Sem.run_pure, Result.andThen_ok, List.map_toArray, List.map_cons, List.map_nil, hs, hx, hr]
  exact h v' w' h2 h3 h4
end Go.Proofs.Ythmockfeffikjaa
namespace Go.Proofs.Ythmockfeffikjaa
open Go.RowKit
variable {W w w1 w2 w3 w4 : World} {base d : Nat} {hd : Value → Int → Obj} {v v' : Value} {ys : List CeR} {S : Mem} {fp : Nat → Prop}

theorem ECell : Elem Try.prog 25 30 7 72 (.agg #[i64 0, i64 0, i64 0, i64 0, .slice none 0 0, i64 0, .bool false]) := Elem.mk' Try.underlying25 (by kernel_rfl) rfl (by decide)
theorem ceCells_one (y : CeR) : ∀ u ∈ CeR.cells y, u.oneCell' = true := by
  intro u hu
  simp [CeR.cells] at hu
  rcases hu with rfl | rfl | rfl | rfl | rfl | rfl | rfl <;> rfl
theorem ceRow_snoc (ys : List CeR) (y : CeR) : ceRow (ys ++ [y]) = ceRow ys ++ CeR.cells y := by simp [ceRow]
theorem MemIs.wider {fp' : Nat → Prop} (H : MemIs W base d hd v ys S fp) (h : ∀ k, fp k → fp' k) (hl : ∀ k, fp' k → k < W.heap.size) : MemIs W base d hd v ys S fp' :=
  ⟨H.cs, H.ok, H.head, H.own, H.sl, h _ H.fd, fun g hg => h g (H.fv g hg), fun y hy q e => h _ (H.fs y hy q e), H.nd, H.ap, hl, H.bd⟩
/-- A memory behind an append of a cell of its own. -/
theorem MemIs.push (H : MemIs w base d hd v ys S fp) (hB : Below w.heap.size w w2) (y : CeR) (hok : okP y.x = true) (hs : SlAt w2 y.p y.c y.x.came) (hp : ∀ q, y.p = some q → w.heap.size ≤ q.block ∧ q.block < w2.heap.size)
    {n : Nat} (hn : n = ys.length + 1) (hown : w3.ownsRow base 30 7 v' n (ceRow ys ++ CeR.cells y)) (hg : w2.grownBy w3 v.ownBlock) (hst : Stayed w2 v v') (m : Int)
    (h4d : w4.heap[d]? = some (hd v' m)) (h4 : ∀ j, j ≠ d → w4.heap[j]? = w3.heap[j]?) (h4s : w4.heap.size = w3.heap.size) :
    MemIs w4 base d hd v' (ys ++ [y]) ⟨S.cs ++ [y.x], m⟩ (fun j => fp j ∨ (w.heap.size ≤ j ∧ j < w4.heap.size)) := by
  have hdl := H.lt _ H.fd
  have hvl := fun g hg => H.lt g (H.fv g hg)
  have hs2 := hB.size
  have hs3 := hg.size
  have hgd : ∀ g, v'.ownBlock = some g → g ≠ d := fun g hg' e => by
    subst e
    rcases hst _ hg' with h | h
    · exact H.nd h
    · omega
  have near : ∀ j, j < w2.heap.size → j ≠ d → v.ownBlock ≠ some j → w4.heap[j]? = w2.heap[j]? := fun j hj hjd hjv => (h4 j hjd).trans (hg.block j hj (fun e => hjv e.symm))
  have olds : ∀ z ∈ ys, ∀ q, z.p = some q → q.block < w.heap.size := fun z hz q e => H.lt _ (H.fs z hz q e)
  refine ⟨?_, fun z hz => ?_, h4d, ?_, fun z hz => ?_, .inl H.fd, fun g hg' => ?_, fun z hz q e => ?_, fun e => hgd d e rfl, fun z hz q e => ?_, fun k hk => ?_, H.bd⟩
  · rw [List.map_append, ← H.cs]; rfl
  · rcases List.mem_append.1 hz with h | h
    · exact H.ok z h
    · rw [List.mem_singleton.1 h]; exact hok
  · rw [ceRow_snoc, List.length_append, List.length_singleton, ← hn]
    exact own_blk hown (fun g hg' => h4 g (hgd g hg'))
  · rcases List.mem_append.1 hz with h | h
    · refine (H.sl z h).blk (fun q e => ?_)
      have h1 := olds z h q e
      have h2 := H.ap z h q e
      exact (near _ (by omega) h2.1 h2.2).trans (hB.block _ h1)
    · rw [List.mem_singleton.1 h]
      refine hs.blk (fun q e => ?_)
      have h1 := hp q e
      exact near _ h1.2 (by omega) (fun e2 => by have := hvl _ e2; omega)
  · rcases hst g hg' with h | h
    · exact .inl (H.fv g h)
    · have := own_lt hown g hg'; exact .inr ⟨by omega, by omega⟩
  · rcases List.mem_append.1 hz with h | h
    · exact .inl (H.fs z h q e)
    · rw [List.mem_singleton.1 h] at e
      have h1 := hp q e
      exact .inr ⟨h1.1, by omega⟩
  · rcases List.mem_append.1 hz with h | h
    · refine ⟨(H.ap z h q e).1, fun e2 => ?_⟩
      rcases hst _ e2 with h3 | h3
      · exact (H.ap z h q e).2 h3
      · have := olds z h q e; omega
    · rw [List.mem_singleton.1 h] at e
      have h1 := hp q e
      refine ⟨by omega, fun e2 => ?_⟩
      rcases hst _ e2 with h3 | h3
      · have := hvl _ h3; omega
      · omega
  · rcases hk with h | h
    · have := H.lt k h; omega
    · exact h.2

def newE (l : List Ce) : Int := if 4096 < l.length then 3 else if l.all okP then 0 else 230
def NewTell (w : World) (hd : Value → Int → Obj) (l : List Ce) (e : Ending) (w' : World) : Prop :=
  (newE l = 0 ∧ ∃ d fp, e = .returned (.tuple #[.pointer (some ⟨d, 0, none⟩), i64 0]) ∧ MMach w' w.heap.size d hd ⟨l, 0⟩ fp ∧ (∀ k, fp k → w.heap.size ≤ k) ∧ Below w.heap.size w w') ∨
  (newE l ≠ 0 ∧ e = .returned (.tuple #[.pointer none, i64 (newE l)]) ∧ Below w.heap.size w w')
def NI (w : World) (hd : Value → Int → Obj) (zs : List CeR) (k : Nat) (wr : World) : Prop :=
  (∀ z ∈ zs.take k, okP z.x = true) ∧ Below w.heap.size w wr ∧ w.heap.size < wr.heap.size ∧ ∃ v ys, MemIs wr w.heap.size w.heap.size hd v ys ⟨(zs.take k).map CeR.x, 0⟩ (fun j => w.heap.size ≤ j ∧ j < wr.heap.size) ∧ ys.length = k
theorem NI.start (zs : List CeR) (hd : Value → Int → Obj) (hb : Below w.heap.size w w1) (h : w1.heap[w.heap.size]? = some (hd (.slice none 0 0) 0)) : NI w hd zs 0 w1 := by
  have hz := (Array.getElem?_eq_some_iff.1 h).1
  refine ⟨fun z hz => (by simp at hz), hb, hz, .slice none 0 0, [], ⟨rfl, fun y hy => (by cases hy), h, World.ownsRow_nil _ _ _ _, fun y hy => (by cases hy), ⟨Nat.le_refl _, hz⟩, fun g hg => (by cases hg), fun y hy => (by cases hy), fun e => (by cases e), fun y hy => (by cases hy), fun k hk => hk.2, Nat.le_refl _⟩, rfl⟩
theorem NI.push {zs : List CeR} {k : Nat} {wr : World} (hk : k < zs.length) {x : Ce} (hx : zs[k].x = x) (hok : okP x = true) (hbw : Below w.heap.size w wr) (hzw : w.heap.size < wr.heap.size) (hall : ∀ z ∈ zs.take k, okP z.x = true)
    (H : MemIs wr w.heap.size w.heap.size hd v ys ⟨(zs.take k).map CeR.x, 0⟩ (fun j => w.heap.size ≤ j ∧ j < wr.heap.size)) (hyl : ys.length = k)
    (hB : Below wr.heap.size wr w2) {p : Option Addr} {c : Nat} (hs : SlAt w2 p c x.came) (hp : ∀ q, p = some q → wr.heap.size ≤ q.block ∧ q.block < w2.heap.size)
    (hown : w3.ownsRow w.heap.size 30 7 v' (k + 1) (ceRow ys ++ CeR.cells ⟨x, p, c⟩)) (hg : w2.grownBy w3 v.ownBlock) (hst : Stayed w2 v v')
    (h4d : w4.heap[w.heap.size]? = some (hd v' 0)) (h4 : ∀ j, j ≠ w.heap.size → w4.heap[j]? = w3.heap[j]?) (h4s : w4.heap.size = w3.heap.size) (h4o : w4.os = w3.os ∧ w4.tape = w3.tape ∧ w4.output = w3.output) : NI w hd zs (k + 1) w4 := by
  have hs2 := hB.size
  have hs3 := hg.size
  refine ⟨fun z hz => ?_, ?_, by omega, v', ys ++ [⟨x, p, c⟩], ?_, by simp [hyl]⟩
  · rw [take_succ zs k hk] at hz
    rcases List.mem_append.1 hz with h | h
    · exact hall z h
    · rw [List.mem_singleton.1 h, hx]; exact hok
  · refine ⟨by rw [h4o.1, hg.os, hB.os, hbw.os], by rw [h4o.2.1, hg.tape, hB.tape, hbw.tape], by rw [h4o.2.2, hg.output, hB.output, hbw.output], by omega, fun j hj => ?_⟩
    refine (h4 j (by omega)).trans ((hg.block j (by omega) (fun e => ?_)).trans ((hB.block j (by omega)).trans (hbw.block j hj)))
    have := (H.fv j e.symm).1; omega
  · have := (H.push hB ⟨x, p, c⟩ hok hs hp (by rw [hyl]) hown hg hst 0 h4d h4 h4s).wider (fp' := fun j => w.heap.size ≤ j ∧ j < w4.heap.size) (fun j hj => by rcases hj with h | h <;> omega) (fun j hj => hj.2)
    rw [take_succ zs k hk, List.map_append]
    show MemIs _ _ _ _ _ _ ⟨_ ++ [zs[k].x], 0⟩ _
    rw [hx]
    exact this
end Go.Proofs.Ythmockfeffikjaa
namespace Go.Proofs.Ythmockfeffikjaa
open Go.RowKit
theorem put7_grown (w : World) (g o : Nat) (y : CeR) : w.grownBy (put7 w g o y) (some g) := by
  unfold put7
  iterate 7 refine gtr ?_ (grown_set _ _ _ _)
  exact World.grownBy.refl _ _
/-- What holds while the region of the store goes on: all but the row's block lies as it lay. -/
structure DS (W4 : World) (g : Nat) (w' : World) : Prop where
  s : w'.heap.size = W4.heap.size
  b : ∀ j, j ≠ g → w'.heap[j]? = W4.heap[j]?
theorem DS.cell {W4 w' : World} {g j o : Nat} (h : DS W4 g w') (hj : j ≠ g) : w'.cell? ⟨j, o, none⟩ = W4.cell? ⟨j, o, none⟩ := World.cell?_of_block (a := ⟨j, o, none⟩) (h.b j hj)
theorem DS.set {W4 w' : World} {g : Nat} (h : DS W4 g w') (o : Nat) (u : Value) : DS W4 g (w'.setCell ⟨g, o, none⟩ u) :=
  ⟨by simpa using h.s, fun j hj => (Below.heap_setCell w' ⟨g, o, none⟩ u j hj).trans (h.b j hj)⟩
theorem DS.refl (W4 : World) (g : Nat) : DS W4 g W4 := ⟨rfl, fun _ _ => rfl⟩
theorem DS.drew {W4 w' : World} {g : Nat} (h : DS W4 g w') : DS W4 g w'.drew := ⟨h.s, h.b⟩
variable {W : World} {base d : Nat} {v : Value} {ys : List CeR} {S : Mem} {fp : Nat → Prop}

set_option maxRecDepth 100000 in
set_option maxHeartbeats 1000000 in
theorem do_ok (H : MMach W base d hdM S fp) (wk : Int) (a : Ac) (he : (S.look wk a).2.2 = 0) :
    Calls Try.prog 43 #[.pointer (some ⟨d, 0, none⟩), i64 wk, a.val] W (DoTell W base d hdM S fp wk a) := by
  have e1 : S.step wk a = ⟨S.cs.set a.cell.toNat (S.look wk a).1, IntKind.i64.wrap (S.steps + 1)⟩ := by unfold Mem.step; rw [if_pos he]
  have e2 : S.tell wk a = ((S.look wk a).2.1, 0) := by unfold Mem.tell; rw [if_pos he]
  unfold DoTell
  rw [e1, e2, IntWalk.i64_left]
  clear e1 e2
  obtain ⟨v, ys, h⟩ := H
  have HM := hid h
  have hr : 0 ≤ a.cell ∧ a.cell < ys.length := by
    by_cases hno : a.cell < 0 ∨ (ys.length : Int) ≤ a.cell
    · rw [h.look_no hno] at he; cases he
    · omega
  obtain ⟨k, hk⟩ : ∃ k : Nat, a.cell = k := ⟨a.cell.toNat, by omega⟩
  have hkl : k < ys.length := by omega
  have hokk : okP (S.look wk a).1 = true := by
    rw [h.look hkl hk] at he ⊢
    exact oneP_ok _ _ _ he
  have HOK := hid hokk
  have hbs : Hid (base ≤ W.heap.size) := Nat.le_trans h.bd (Nat.le_of_lt (h.lt _ h.fd))
  have HL := hid (fun w' (hb : Below W.heap.size W w') => look_any (h.below hb) wk a)
  obtain ⟨g, c, rfl, hlg⟩ := own_block h.own (by omega)
  obtain ⟨_, c1, c2⟩ := hdM_cells h.head
  have hld := (Array.getElem?_eq_some_iff.1 h.head).1
  clear h hr hokk
  obtain ⟨ak, ac, ao, an⟩ := a
  dsimp only at hk
  subst hk
  rw [Int.toNat_natCast]
  generalize S.look wk ⟨ak, k, ao, an⟩ = r at HL he HOK ⊢
  obtain ⟨⟨kind', n', owner', need', came', turns', there'⟩, V, E⟩ := r
  unfold CeTellL Ce.val Ac.val at HL
  unfold Ac.val
  dsimp only [List.cons_append, List.nil_append] at *
  subst he
  have hb0 : Hid (Below W.heap.size W (W.alloc (.cells #[i64 ak, i64 k, i64 ao, i64 an] 34))) := (Below.refl _ _).alloc (Nat.le_refl _) _
  go_enter Try.func43, Try.ntmps43
  go_upto_region 4 with (go_at_call 52; (with_reducible refine (HL.out _ hb0.out).mono ?_); rintro e w3 ⟨p3, c3, rfl, hs3, hl3, hb3⟩; have HB3 := hid (below_more hb3 hb0.out (Nat.le_refl _)); have HBA := hid hb3; have HS3 := hid hs3; have HL3 := hid hl3; clear hs3 hl3 hb3)
  have hz3 := HB3.out.size
  have hgd : g ≠ d := fun e => HM.out.nd (by rw [← e]; rfl)
  have hd3 : d < w3.heap.size := by omega
  have hg3 : g < w3.heap.size := by have := hlg.2.1; omega
  obtain ⟨W4, hW4⟩ : ∃ W4, W4 = w3.alloc (.cells #[i64 kind', i64 n', i64 owner', i64 need', .slice p3 came'.length c3, i64 turns', .bool there'] 30) := ⟨_, rfl⟩
  rw [← hW4]
  have hb34 : Below w3.heap.size w3 W4 := by rw [hW4]; exact (Below.refl _ _).alloc (Nat.le_refl _) _
  have hz4 : W4.heap.size = w3.heap.size + 1 := by rw [hW4]; simp
  have hA : AcBlk W4 W.heap.size ⟨ak, k, ao, an⟩ := ((acblk_new W ⟨ak, k, ao, an⟩).below HBA.out).below hb34
  have hC : CeBlk W4 w3.heap.size ⟨kind', n', owner', need', came', turns', there'⟩ p3 c3 := by rw [hW4]; exact ceblk_new w3 ⟨kind', n', owner', need', came', turns', there'⟩ p3 c3
  have hb4 : Below W.heap.size W W4 := HB3.out.trans (hb34.mono HB3.out.size)
  have HM4 := hid (HM.out.below hb4)
  have q0 : ∀ w', DS W4 g w' → w'.cell? ⟨d, 1, none⟩ = some (.slice (some ⟨g, 0, none⟩) ys.length c) := fun w' h => (h.cell (Ne.symm hgd)).trans ((hb4.cell (p := ⟨d, 1, none⟩) hld).trans c1)
  have hgW : g < W.heap.size := hlg.2.1
  have hd2 : W4.cell? ⟨d, 2, none⟩ = some (i64 S.steps) := (hb4.cell (p := ⟨d, 2, none⟩) hld).trans c2
  have hfd : W4.frozen? ⟨d, 2, none⟩ = false := frozen_of_row _ _ _ _ _ HM4.out.head
  have hne0 : d ≠ g := Ne.symm hgd
  have a1 : ∀ w', DS W4 g w' → w'.cell? ⟨W.heap.size, 1, none⟩ = some (i64 k) := fun w' h => (h.cell (by omega)).trans hA.facts.1.2.1
  have cc : ∀ w' (o : Nat), DS W4 g w' → w'.cell? ⟨w3.heap.size, o, none⟩ = W4.cell? ⟨w3.heap.size, o, none⟩ := fun w' o h => h.cell (by omega)
  obtain ⟨⟨y0, y1, y2, y3, y4, y5, y6⟩, yf, yl⟩ := hC.facts
  dsimp only at y0 y1 y2 y3 y4 y5 y6
  have b0 := fun w' (h : DS W4 g w') => (cc w' 0 h).trans y0
  have b1 := fun w' (h : DS W4 g w') => (cc w' 1 h).trans y1
  have b2 := fun w' (h : DS W4 g w') => (cc w' 2 h).trans y2
  have b3 := fun w' (h : DS W4 g w') => (cc w' 3 h).trans y3
  have b4 := fun w' (h : DS W4 g w') => (cc w' 4 h).trans y4
  have b5 := fun w' (h : DS W4 g w') => (cc w' 5 h).trans y5
  have b6 := fun w' (h : DS W4 g w') => (cc w' 6 h).trans y6
  clear cc y0 y1 y2 y3 y4 y5 y6 yf
  have hr4 : Row W4 (some ⟨g, 0, none⟩) (ceRow ys) := by
    obtain ⟨p, c', e, hr⟩ := own_shape HM4.out.own
    injection e with e1; rw [e1]; exact hr
  obtain ⟨r0, r1, r2, r3, r4, r5, r6⟩ := ce_cells hr4 k hkl
  simp only [Nat.zero_add] at r0 r1 r2 r3 r4 r5 r6
  have gf : ∀ o, W4.frozen? ⟨g, o, none⟩ = false := fun o => by
    rcases HM4.out.own.2 with ⟨h0, _⟩ | ⟨g', cap, cur, hv, _, hh, _⟩
    · cases h0
    · cases hv; exact frozen_of_row _ _ _ _ _ hh
  have hlen : ys.length ≤ maxLen := Nat.le_trans hlg.2.2.1 hlg.2.2.2
  unfold maxLen at hlen
  have hkI : (k : Int) < ys.length := by omega
  have hk0 : (0 : Int) ≤ (k : Int) := by omega
  have HZ := hid (And.intro hz4 (And.intro hd3 hg3))
  have HQ : Hid (∀ q, p3 = some q → W.heap.size ≤ q.block ∧ q.block < W4.heap.size ∧ q.block ≠ d ∧ q.block ≠ g) := fun q hq => by
    have h1 := HL3.out q hq
    simp only [World.size_alloc] at h1
    omega
  have HGD := hid hgd
  have HB34 := hid hb34
  have HB4 := hid hb4
  have HKL := hid hkl
  have HLD := hid hld
  have HYL := hid yl
  clear hC hA hr4 hW4 c1 c2 hz3 hlg hbs hb34 hd3 hz4 yl
  have hDS : DS W4 g W4.drew := ⟨rfl, fun _ _ => rfl⟩
  go_region_held3 (fun w' => DS W4 g w') (first | (with_reducible assumption) | (with_reducible ((repeat (first | refine DS.drew ?_ | refine DS.set ?_ _ _)); exact DS.refl _ _))) (first | fail)
  go_wp2_with fail
  have hfpg : fp g := HM.out.fv g rfl
  have hbg : base ≤ g := own_ge HM.out.own g rfl
  have hbdl := HM.out.lt _ HM.out.fd
  obtain ⟨w5, hw5⟩ : ∃ w5, w5 = put7 W4 g (k * 7) ⟨⟨kind', n', owner', need', came', turns', there'⟩, p3, c3⟩ := ⟨_, rfl⟩
  have ho5 : ∀ j, j ≠ g → w5.heap[j]? = W4.heap[j]? := fun j hj => by rw [hw5]; exact put7_other _ _ _ _ _ hj
  have hz5 : w5.heap.size = W4.heap.size := by rw [hw5]; exact put7_size _ _ _ _
  have hq5 : w5.os = W4.os ∧ w5.tape = W4.tape ∧ w5.output = W4.output := by rw [hw5]; exact ⟨(put7_grown _ _ _ _).os, (put7_grown _ _ _ _).tape, (put7_grown _ _ _ _).output⟩
  have HP := HM4.out.put k HKL.out ⟨⟨kind', n', owner', need', came', turns', there'⟩, p3, c3⟩ HOK.out ((HS3.out).below HB34.out) (fun q hq => ⟨(HQ.out q hq).2.1, (HQ.out q hq).2.2.1, (HQ.out q hq).2.2.2⟩) (wrap64 (S.steps + 1)) (w2 := (w5.setCell ⟨d, 2, none⟩ (i64 (wrap64 (S.steps + 1)))).drew)
    (heap_setCell_same w5 d 2 _ _ _ ((ho5 _ hne0).trans HM4.out.head)) (fun j hj => by rw [← hw5]; exact Below.heap_setCell _ _ _ _ hj) (by simp [hz5])
  have hother : ∀ j, j < W.heap.size → j ≠ d → j ≠ g → ((w5.setCell ⟨d, 2, none⟩ (i64 (wrap64 (S.steps + 1)))).drew).heap[j]? = W.heap[j]? := fun j hj h1 h2 =>
    (Below.heap_setCell _ _ _ _ h1).trans ((ho5 _ h2).trans (HB4.out.block j hj))
  have hsz : W.heap.size ≤ ((w5.setCell ⟨d, 2, none⟩ (i64 (wrap64 (S.steps + 1)))).drew).heap.size := by
    have := HB4.out.size
    simp [hz5]; omega
  have hq6 : ((w5.setCell ⟨d, 2, none⟩ (i64 (wrap64 (S.steps + 1)))).drew).os = W4.os ∧ ((w5.setCell ⟨d, 2, none⟩ (i64 (wrap64 (S.steps + 1)))).drew).tape = W4.tape ∧ ((w5.setCell ⟨d, 2, none⟩ (i64 (wrap64 (S.steps + 1)))).drew).output = W4.output :=
    ⟨(grown_set w5 d 2 (i64 (wrap64 (S.steps + 1)))).os.trans hq5.1, (grown_set w5 d 2 (i64 (wrap64 (S.steps + 1)))).tape.trans hq5.2.1, (grown_set w5 d 2 (i64 (wrap64 (S.steps + 1)))).output.trans hq5.2.2⟩
  unfold put7 at hw5
  dsimp only at hw5
  rw [← hw5]
  exact bodyPost_ret (v := .tuple #[i64 V, i64 0]) (by simp [results, Try.results43, go_sem]) rfl ⟨rfl, _, ⟨_, _, HP⟩, fun j hj => by
      rcases hj with h | ⟨q, hq, rfl⟩
      · exact .inl h
      · exact .inr (HQ.out q hq).1,
    ⟨hq6.1.trans HB4.out.os, hq6.2.1.trans HB4.out.tape, hq6.2.2.trans HB4.out.output, hsz, fun j hj hn => hother j hj (fun e => hn (e ▸ HM.out.fd)) (fun e => hn (e ▸ hfpg))⟩,
    ⟨hq6.1.trans HB4.out.os, hq6.2.1.trans HB4.out.tape, hq6.2.2.trans HB4.out.output, hsz, fun j hj => hother j (by have := HM.out.bd; omega) (by have := HM.out.bd; omega) (by omega)⟩⟩
theorem do_any (H : MMach W base d hdM S fp) (wk : Int) (a : Ac) :
    Calls Try.prog 43 #[.pointer (some ⟨d, 0, none⟩), i64 wk, a.val] W (DoTell W base d hdM S fp wk a) := by
  by_cases he : (S.look wk a).2.2 = 0
  · exact do_ok H wk a he
  · exact do_err H wk a he
end Go.Proofs.Ythmockfeffikjaa
