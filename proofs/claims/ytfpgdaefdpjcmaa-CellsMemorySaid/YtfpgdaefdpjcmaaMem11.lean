/-
  The walk of the law's own same: two memories that hold the same.
-/
import Derived.Test.YtfpgdaefdpjcmaaMem10
import Derived.Test.YtfpgdaefdpjcmaaRangeA
import Derived.Test.YtfpgdaefdpjcmaaRoundH
import Derived.Test.YtfpgdaefdpjcmaaSame
namespace Go.Proofs.Ytfpgdaefdpjcmaa
open Go.RowKit
attribute [local go_sem] Oper.semAt_some
attribute [local go_sem] wide_fnM wide_depthM
variable {w W W' : World} {d d2 base2 : Nat} {v : Value} {ys : List CeR} {S : Mem} {fp rp : Nat → Prop}

/-- What the loop holds: the pointer's block, the result's, the counter's. -/
structure SmI (w : World) (d2 n : Nat) (T : Nat → Prop) (hs : Nat) (W : World) : Prop where
  b : Below w.heap.size w W
  p : W.heap[w.heap.size]? = some (.cells #[.pointer (some ⟨d2, 0, none⟩)] 68 (0, 0))
  r : W.heap[w.heap.size + 1]? = some (.cells #[.bool false] 4 (0, 0))
  lt : ∀ k, T k → k < hs
  hs : hs ≤ W.heap.size
theorem SmI.later {n : Nat} {T : Nat → Prop} {hs : Nat} (h : SmI w d2 n T hs W) (hs' : StM W W') : SmI w d2 n T hs W' :=
  ⟨h.b.trans (hs'.mono h.b.size), (hs'.block _ (Array.getElem?_eq_some_iff.1 h.p).1).trans h.p, (hs'.block _ (Array.getElem?_eq_some_iff.1 h.r).1).trans h.r, h.lt, Nat.le_trans h.hs hs'.size⟩
def SmJ (w : World) (d2 kb : Nat) (pre : List (Int × CeR)) (T : Nat → Prop) (hs : Nat) (W : World) : Prop :=
  SmI w d2 pre.length T hs W ∧ W.heap[kb]? = some (.cells #[i64 pre.length] 3 (0, 0)) ∧ kb < hs ∧ ¬ T kb ∧ w.heap.size + 2 ≤ kb
theorem SmJ.up {kb : Nat} {pre : List (Int × CeR)} {T : Nat → Prop} {hs hs' : Nat} (h : SmJ w d2 kb pre T hs W) (h1 : hs ≤ hs') (h2 : hs' ≤ W.heap.size) : SmJ w d2 kb pre T hs' W :=
  ⟨⟨h.1.b, h.1.p, h.1.r, fun k hk => Nat.lt_of_lt_of_le (h.1.lt k hk) h1, h2⟩, h.2.1, Nat.lt_of_lt_of_le h.2.2.1 h1, h.2.2.2⟩
theorem SmJ.later {kb : Nat} {pre : List (Int × CeR)} {T : Nat → Prop} {hs : Nat} (h : SmJ w d2 kb pre T hs W) (hs' : StM W W') : SmJ w d2 kb pre T hs W' :=
  ⟨h.1.later hs', (hs'.block _ (Array.getElem?_eq_some_iff.1 h.2.1).1).trans h.2.1, h.2.2⟩
theorem SmJ.putObj {kb l : Nat} {pre : List (Int × CeR)} {T : Nat → Prop} {hs : Nat} {r : Loop} (h : SmJ w d2 kb pre T hs W) (hl : W.heap[l]? = some (.loop r)) (hwl : w.heap.size ≤ l) (o : Obj) : SmJ w d2 kb pre T hs (W.putObj l o) := by
  have ne : ∀ {b : Nat} {x : Array Value} {t : TypeId} {q : Nat × Nat}, W.heap[b]? = some (.cells x t q) → (W.putObj l o).heap[b]? = some (.cells x t q) := fun hb => (World.putObj_heap_other (fun e => by subst e; rw [hl] at hb; cases hb)).trans hb
  exact ⟨⟨Below.putObjB h.1.b h.1.b.size hwl o, ne h.1.p, ne h.1.r, h.1.lt, by simpa using h.1.hs⟩, ne h.2.1, h.2.2⟩

set_option maxRecDepth 100000 in
set_option maxHeartbeats 2000000 in
theorem lsame_any (HM : MMach w base2 d hdM S fp) (HR : MemIs w base2 d2 hdR v ys S rp) (hlen : S.cs.length ≤ 4096) :
    Calls Try.prog 31 #[.pointer (some ⟨d, 0, none⟩), .pointer (some ⟨d2, 0, none⟩)] w fun e w' => e = .returned (.bool true) ∧ Below w.heap.size w w' := by
  have HAL := hid (fun w1 (hb : Below w.heap.size w w1) => all_any (HM.below hb) (by omega))
  have HST := hid (fun w1 (hb : Below w.heap.size w w1) => msteps_any (HM.below hb))
  have hnf : ∀ (w : World) (a : Addr), (binOp .eql 61 (.func (.func 47) #[] #[.pointer (some a)]) .nilFunc).run Try.prog w = .ok (.bool false) w := fun w a => by kernel_rfl
  have hB0 : Hid (Below w.heap.size w ((w.alloc (.cells #[.pointer (some ⟨d2, 0, none⟩)] 68)).alloc (.cells #[.bool false] 4))) := ((Below.refl _ _).alloc (Nat.le_refl _) _).alloc (by simp) _
  refine callsIn_wide.1 (?_ : CallsIn Fence.wide 5 Try.prog 31 #[.pointer (some ⟨d, 0, none⟩), .pointer (some ⟨d2, 0, none⟩)] w _)
  refine callsIn_of_wp_marks Try.func31 rfl (show Fence.wide.fn 31 from trivial) ?_ rfl
  simp only [Try.ntmps31, List.size_toArray, List.length_cons, List.length_nil, Nat.reduceAdd, Nat.reduceSub, Array.replicate_succ, Array.replicate_zero, List.push_toArray, List.append_toArray, List.nil_append, List.cons_append]
  gi_wp2_with (gi_at_call 23; refine (callsIn_wide.2 (HAL.out _ hB0.out)).mono ?_; rintro e w2 ⟨v2, zs, rfl, hm2, hb2⟩; simp only [World.size_alloc] at hm2; have HM2 := hid hm2; have HB2 := hid hb2; clear hm2 hb2)
  have hb2w := HB2.out.size
  obtain ⟨kb, hkb⟩ : ∃ kb, kb = w2.heap.size := ⟨_, rfl⟩
  have hseq := all1_seq 4 (by omega) HM2.out (by omega)
  have hW2 : Below w2.heap.size w2 (w2.alloc (.cells #[.int .i64 0] 3)) := (Below.refl _ _).alloc (Nat.le_refl _) _
  refine wpIn_rangeFunc_VA rfl (by omega) (gf := 47) (lb := #[.pointer (some ⟨w.heap.size + 1 + 1, 0, none⟩)]) rfl trivial (enters_of Try.func47 (by kernel_rfl) rfl) hseq hW2 (fun _ => rfl)
    (fun k hk => by have := HM2.out.lt k hk; simp; omega)
    (fun W W' h k o hk _ _ => (h.block k (Array.getElem?_eq_some_iff.1 hk).1).trans hk)
    (fun pre hs x W l r o h hl => ⟨h.1, h.2.1, ⟨h.2.2.1.1, h.2.2.1.2.1, h.2.2.1.2.2.1, h.2.2.1.2.2.2.putObj hl o⟩, fun q hq => by have := h.2.2.2 q hq; simpa using this⟩)
    (SmJ w d2 kb) (fun _ _ _ => False) (fun pre T hs W W' h hst => h.later hst) (fun _ _ _ _ h _ => h)
    (fun pre T hs W r o h hl => h.putObj hl (by simp; simp at hb2w; omega) o) (fun _ _ _ _ _ h _ => h) ?start
    ?acta (fun x W => W.alloc (.cells #[i64 x.2.x.kind, i64 x.2.x.n, i64 x.2.x.owner, i64 x.2.x.need, .slice x.2.p x.2.x.came.length x.2.c, i64 x.2.x.turns, .bool x.2.x.there] 24)) (fun x W => (Below.refl _ _).alloc (Nat.le_refl _) _) (fun x W => (Below.refl _ _).alloc (Nat.le_refl _) _)
    (fun pre hs x W h => ⟨h.1, h.2.1, h.2.2.1.alloc _, fun q hq => by have := h.2.2.2 q hq; simp; omega⟩) ?assigna ?bodya ?donea ?stopa
  case start =>
    intro r
    have hbA : Below w.heap.size w w2 := hB0.out.trans (HB2.out.mono (by simp; omega))
    have hz2 : w.heap.size + 2 ≤ w2.heap.size := by simpa using hb2w
    have e0 : w2.heap[w.heap.size]? = some (.cells #[.pointer (some ⟨d2, 0, none⟩)] 68 (0, 0)) := (HB2.out.block _ (by simp; omega)).trans ((Below.heap_alloc _ _ _ (by simp)).trans (heap_alloc_new w _))
    have e1 : w2.heap[w.heap.size + 1]? = some (.cells #[.bool false] 4 (0, 0)) := (HB2.out.block _ (by simp)).trans (by have := heap_alloc_new (w.alloc (.cells #[.pointer (some ⟨d2, 0, none⟩)] 68)) (.cells #[.bool false] 4 (0, 0)); rwa [World.size_alloc] at this)
    have h0 : SmJ w d2 kb [] (fun j => w.heap.size + 1 + 1 ≤ j ∧ j < w2.heap.size) (w2.heap.size + 1) (w2.alloc (.cells #[.int .i64 0] 3)) := by
      subst hkb
      refine ⟨⟨hbA.trans (hW2.mono hbA.size), (hW2.block _ (by omega)).trans e0, (hW2.block _ (by omega)).trans e1, fun k hk => by omega, by simp⟩, heap_alloc_new w2 _, by omega, fun h => by omega, hz2⟩
    have hb3 : Below (w2.alloc (.cells #[.int .i64 0] 3)).heap.size (w2.alloc (.cells #[.int .i64 0] 3)) (((w2.alloc (.cells #[.int .i64 0] 3)).alloc (.deferred (some []))).alloc (.loop r)) := ((Below.refl _ _).alloc (Nat.le_refl _) _).alloc (by simp) _
    exact (h0.later hb3).up (by simp) (by simp)
  case assigna =>
    intro l x W K hK
    unfold encC Ce.val
    gi_wp2
    exact hK
  case stopa => rintro c pre W _ h _; exact h.elim
  case bodya =>
    rintro l pre T hs x W0 r hI0 hV0 hI hV ⟨r', hl'⟩ hhs hsz hT
    clear hseq hnf HAL HST
    subst hkb
    have hz1 : ((W0.alloc (.cells #[i64 x.2.x.kind, i64 x.2.x.n, i64 x.2.x.owner, i64 x.2.x.need, .slice x.2.p x.2.x.came.length x.2.c, i64 x.2.x.turns, .bool x.2.x.there] 24)).putObj ((w2.alloc (.cells #[.int .i64 0] 3)).heap.size + 1) (.loop r)).heap.size = W0.heap.size + 1 := by simp
    have hC1 : CeBlk ((W0.alloc (.cells #[i64 x.2.x.kind, i64 x.2.x.n, i64 x.2.x.owner, i64 x.2.x.need, .slice x.2.p x.2.x.came.length x.2.c, i64 x.2.x.turns, .bool x.2.x.there] 24)).putObj ((w2.alloc (.cells #[.int .i64 0] 3)).heap.size + 1) (.loop r)) W0.heap.size x.2.x x.2.p x.2.c := (World.putObj_heap_other (by simp at hsz ⊢; omega)).trans (ceblk_new W0 x.2.x x.2.p x.2.c)
    generalize (W0.alloc (.cells #[i64 x.2.x.kind, i64 x.2.x.n, i64 x.2.x.owner, i64 x.2.x.need, .slice x.2.p x.2.x.came.length x.2.c, i64 x.2.x.turns, .bool x.2.x.there] 24)).putObj ((w2.alloc (.cells #[.int .i64 0] 3)).heap.size + 1) (.loop r) = W1 at hI hV hz1 hC1 ⊢
    clear hl' hT hI0 hV0
    have HR1 := HR.below hI.1.b
    obtain ⟨hx1, ⟨suf, hsuf⟩, hsl, hq⟩ := hV
    obtain ⟨kx, y⟩ := x
    dsimp only at hx1 hsl hq hC1 hz1
    subst hx1
    have hcs : S.cs = ys.map CeR.x := HR.cs
    have hkl : pre.length < ys.length := by
      have e1 := congrArg List.length hsuf
      have e2 := congrArg List.length hcs
      simp at e1 e2; omega
    have hyk : ys[pre.length].x = y.x := by
      have h1 : S.cs[pre.length]? = some y.x := by rw [← hsuf]; simp
      rw [hcs, List.getElem?_map, List.getElem?_eq_getElem hkl] at h1
      simpa using h1
    have hsl2 := HR1.sl _ (List.getElem_mem hkl)
    have hok := ok_came (HR1.ok _ (List.getElem_mem hkl))
    have HSM := hid (fun w' (hb : Below W1.heap.size W1 w') => rsame_any y.x ys[pre.length].x y.p ys[pre.length].p y.c ys[pre.length].c w' (hsl.below hb) (hsl2.below hb))
    rw [hyk] at HSM
    have hdec : decide (y.x = y.x) = true := decide_eq_true rfl
    rw [hdec] at HSM
    obtain ⟨p0, c0, rfl, hnc, hcm, hrow, _⟩ := own_row HR1.own
    obtain ⟨g, o, rfl, hbz, _⟩ := hrow.at (by rw [ceRow_len]; omega)
    obtain ⟨r0, r1, r2, r3, r4, r5, r6⟩ := ce_cells hrow pre.length hkl
    rw [hyk] at r0 r1 r2 r3 r4 r5 r6
    generalize ys[pre.length].p = yp2 at *
    generalize ys[pre.length].c = yc2 at *
    have hd0 : W1.cell? ⟨d2, 0, none⟩ = some (.slice (some ⟨g, o, none⟩) ys.length c0) := (hdR_cells HR1.head).1
    have hld := HR1.lt _ HR1.fd
    have hkc : W1.cell? ⟨w2.heap.size, 0, none⟩ = some (i64 pre.length) := cell_of_row _ _ 0 _ _ _ hI.2.1
    have hpc : W1.cell? ⟨w.heap.size, 0, none⟩ = some (.pointer (some ⟨d2, 0, none⟩)) := cell_of_row _ _ 0 _ _ _ hI.1.p
    have hlk := (Array.getElem?_eq_some_iff.1 hI.2.1).1
    have hlp := (Array.getElem?_eq_some_iff.1 hI.1.p).1
    obtain ⟨⟨y0, y1, y2, y3, y4, y5, y6⟩, _, _⟩ := hC1.facts
    have HI := hid hI
    have HX := hid hsuf
    clear hI hsuf hcs hyk hsl hsl2 hC1 HR1 hrow hdec
    obtain ⟨⟨kind, m, owner, need, came, turns, there⟩, yp, yc⟩ := y
    unfold Ce.val at HSM
    dsimp only at *
    have f0 : ∀ w', Below W1.heap.size W1 w' → w'.cell? ⟨w2.heap.size, 0, none⟩ = some (i64 pre.length) := fun w' hb => (hb.cell (p := ⟨w2.heap.size, 0, none⟩) hlk).trans hkc
    have f1 : ∀ w', Below W1.heap.size W1 w' → w'.cell? ⟨w.heap.size, 0, none⟩ = some (.pointer (some ⟨d2, 0, none⟩)) := fun w' hb => (hb.cell (p := ⟨w.heap.size, 0, none⟩) hlp).trans hpc
    have f2 : ∀ w', Below W1.heap.size W1 w' → w'.cell? ⟨d2, 0, none⟩ = some (.slice (some ⟨g, o, none⟩) ys.length c0) := fun w' hb => (hb.cell (p := ⟨d2, 0, none⟩) hld).trans hd0
    have up : ∀ w' (b j : Nat) (u : Value), Below W1.heap.size W1 w' → b < W1.heap.size → W1.cell? ⟨b, j, none⟩ = some u → w'.cell? ⟨b, j, none⟩ = some u := fun w' b j u hb hl h => (hb.cell (p := ⟨b, j, none⟩) hl).trans h
    have hz0 : W0.heap.size < W1.heap.size := by omega
    clear hz1
    have a0 := fun w' hb => up w' _ _ _ hb hz0 y0
    have a1 := fun w' hb => up w' _ _ _ hb hz0 y1
    have a2 := fun w' hb => up w' _ _ _ hb hz0 y2
    have a3 := fun w' hb => up w' _ _ _ hb hz0 y3
    have a4 := fun w' hb => up w' _ _ _ hb hz0 y4
    have a5 := fun w' hb => up w' _ _ _ hb hz0 y5
    have a6 := fun w' hb => up w' _ _ _ hb hz0 y6
    have b0 := fun w' hb => up w' _ _ _ hb hbz r0
    have b1 := fun w' hb => up w' _ _ _ hb hbz r1
    have b2 := fun w' hb => up w' _ _ _ hb hbz r2
    have b3 := fun w' hb => up w' _ _ _ hb hbz r3
    have b4 := fun w' hb => up w' _ _ _ hb hbz r4
    have b5 := fun w' hb => up w' _ _ _ hb hbz r5
    have b6 := fun w' hb => up w' _ _ _ hb hbz r6
    have hklI : (pre.length : Int) < ys.length := by omega
    have hlenI : ys.length ≤ 9223372036854775807 := by unfold maxLen at hcm; omega
    have hge : decide (ys.length ≤ pre.length) = false := by simpa using hkl
    have hge2 : decide ((ys.length : Int) ≤ pre.length) = false := by simp; omega
    clear up y0 y1 y2 y3 y4 y5 y6 r0 r1 r2 r3 r4 r5 r6 hkc hpc hd0
    gi_wp2
    refine wpInR_held (fun w' => Below W1.heap.size W1 w') (by kernel_rfl) (by kernel_rfl) (by rintro ⟨a, w, h⟩; exact h) ?_
    have hS0 : Below W1.heap.size W1 W1.drew := (Below.refl _ _).drew
    refine wpAnyH_take (i := 0) (oi := { dst := some 16, op := Op.move (Operand.tmp 7), type := 3, pos := "law.go:71", after := #[], guard := none }) (v := ?pv0) rfl (by kernel_rfl) (by kernel_rfl) (by kernel_rfl) (fun _ _ _ h => h) (Or.inl ⟨by rfl, ?ph0⟩) (by assumption) ?pr0
    case ph0 => ((intro w hSw; (try dsimp only at hSw); go_simp); try with_reducible rfl)
    try simp only [Act.put, List.setIfInBounds_toArray, List.set_cons_zero, List.set_cons_succ]
    refine wpAnyH_take (i := 1) (oi := { dst := some 17, op := Op.load 3 (Operand.tmp 6), type := 3, pos := "law.go:71", after := #[], guard := none }) (v := ?pv1) rfl (by kernel_rfl) (by kernel_rfl) (by kernel_rfl) (fun _ _ _ h => h) (Or.inl ⟨by rfl, ?ph1⟩) (by assumption) ?pr1
    case ph1 => ((intro w hSw; (try dsimp only at hSw); go_simp); try with_reducible rfl)
    try simp only [Act.put, List.setIfInBounds_toArray, List.set_cons_zero, List.set_cons_succ]
    refine wpAnyH_take (i := 2) (oi := { dst := some 18, op := Op.binOp BinOp.neq 3 (Operand.tmp 16) (Operand.tmp 17) 3, type := 4, pos := "law.go:71", after := #[{ on := 0, ground := Ground.data }, { on := 1, ground := Ground.data }], guard := none }) (v := ?pv2) rfl (by kernel_rfl) (by kernel_rfl) (by kernel_rfl) (fun _ _ _ h => h) (Or.inl ⟨by rfl, ?ph2⟩) (by assumption) ?pr2
    case ph2 => ((intro w hSw; (try dsimp only at hSw); go_simp); try with_reducible rfl)
    try simp only [Act.put, List.setIfInBounds_toArray, List.set_cons_zero, List.set_cons_succ]
    refine wpAnyH_take (i := 3) (oi := { dst := some 19, op := Op.move (Operand.tmp 18), type := 4, pos := "law.go:71", after := #[{ on := 2, ground := Ground.data }], guard := none }) (v := ?pv3) rfl (by kernel_rfl) (by kernel_rfl) (by kernel_rfl) (fun _ _ _ h => h) (Or.inl ⟨by rfl, ?ph3⟩) (by assumption) ?pr3
    case ph3 => ((intro w hSw; (try dsimp only at hSw); go_simp); try with_reducible rfl)
    try simp only [Act.put, List.setIfInBounds_toArray, List.set_cons_zero, List.set_cons_succ]
    refine wpAnyH_take (i := 4) (oi := { dst := some 20, op := Op.load 3 (Operand.tmp 6), type := 3, pos := "law.go:71", after := #[{ on := 3, ground := Ground.guard }], guard := some (3, false) }) (v := ?pv4) rfl (by kernel_rfl) (by kernel_rfl) (by kernel_rfl) (fun _ _ _ h => h) (Or.inl ⟨by rfl, ?ph4⟩) (by assumption) ?pr4
    case ph4 => ((intro w hSw; (try dsimp only at hSw); go_simp); try with_reducible rfl)
    try simp only [Act.put, List.setIfInBounds_toArray, List.set_cons_zero, List.set_cons_succ]
    refine wpAnyH_take (i := 5) (oi := { dst := some 21, op := Op.load 68 (Operand.tmp 3), type := 68, pos := "law.go:71", after := #[{ on := 3, ground := Ground.guard }], guard := some (3, false) }) (v := ?pv5) rfl (by kernel_rfl) (by kernel_rfl) (by kernel_rfl) (fun _ _ _ h => h) (Or.inl ⟨by rfl, ?ph5⟩) (by assumption) ?pr5
    case ph5 => ((intro w hSw; (try dsimp only at hSw); go_simp); try with_reducible rfl)
    try simp only [Act.put, List.setIfInBounds_toArray, List.set_cons_zero, List.set_cons_succ]
    refine wpAnyH_take (i := 6) (oi := { dst := some 22, op := Op.nilCheck (Operand.tmp 21), type := 0, pos := "law.go:71", after := #[{ on := 5, ground := Ground.data }, { on := 3, ground := Ground.guard }], guard := some (3, false) }) (v := ?pv6) rfl (by kernel_rfl) (by kernel_rfl) (by kernel_rfl) (fun _ _ _ h => h) (Or.inl ⟨by rfl, ?ph6⟩) (by assumption) ?pr6
    case ph6 => ((intro w hSw; (try dsimp only at hSw); go_simp); try with_reducible rfl)
    try simp only [Act.put, List.setIfInBounds_toArray, List.set_cons_zero, List.set_cons_succ]
    refine wpAnyH_take (i := 7) (oi := { dst := some 23, op := Op.fieldAddr 83 (Operand.tmp 22) 0, type := 0, pos := "law.go:71", after := #[{ on := 6, ground := Ground.data }, { on := 3, ground := Ground.guard }], guard := some (3, false) }) (v := ?pv7) rfl (by kernel_rfl) (by kernel_rfl) (by kernel_rfl) (fun _ _ _ h => h) (Or.inl ⟨by rfl, ?ph7⟩) (by assumption) ?pr7
    case ph7 => ((intro w hSw; (try dsimp only at hSw); go_simp); try with_reducible rfl)
    try simp only [Act.put, List.setIfInBounds_toArray, List.set_cons_zero, List.set_cons_succ]
    refine wpAnyH_take (i := 8) (oi := { dst := some 24, op := Op.load 31 (Operand.tmp 23), type := 31, pos := "law.go:71", after := #[{ on := 7, ground := Ground.data }, { on := 3, ground := Ground.guard }], guard := some (3, false) }) (v := ?pv8) rfl (by kernel_rfl) (by kernel_rfl) (by kernel_rfl) (fun _ _ _ h => h) (Or.inl ⟨by rfl, ?ph8⟩) (by assumption) ?pr8
    case ph8 => ((intro w hSw; (try dsimp only at hSw); go_simp); try with_reducible rfl)
    try simp only [Act.put, List.setIfInBounds_toArray, List.set_cons_zero, List.set_cons_succ]
    refine wpAnyH_take (i := 9) (oi := { dst := some 25, op := Op.call { callee := Callee.builtin Builtin.len, args := #[Operand.tmp 24], argTypes := #[31] }, type := 3, pos := "law.go:71", after := #[{ on := 8, ground := Ground.data }, { on := 3, ground := Ground.guard }], guard := some (3, false) }) (v := ?pv9) rfl (by kernel_rfl) (by kernel_rfl) (by kernel_rfl) (fun _ _ _ h => h) (Or.inl ⟨by rfl, ?ph9⟩) (by assumption) ?pr9
    case ph9 => ((intro w hSw; (try dsimp only at hSw); go_simp); try with_reducible rfl)
    try simp only [Act.put, List.setIfInBounds_toArray, List.set_cons_zero, List.set_cons_succ]
    refine wpAnyH_take (i := 10) (oi := { dst := some 26, op := Op.binOp BinOp.geq 3 (Operand.tmp 20) (Operand.tmp 25) 3, type := 4, pos := "law.go:71", after := #[{ on := 4, ground := Ground.data }, { on := 9, ground := Ground.data }, { on := 3, ground := Ground.guard }], guard := some (3, false) }) (v := ?pv10) rfl (by kernel_rfl) (by kernel_rfl) (by kernel_rfl) (fun _ _ _ h => h) (Or.inl ⟨by rfl, ?ph10⟩) (by assumption) ?pr10
    case ph10 => ((intro w hSw; (try dsimp only at hSw); go_simp); try with_reducible rfl)
    try simp only [Act.put, List.setIfInBounds_toArray, List.set_cons_zero, List.set_cons_succ]
    refine wpAnyH_take (i := 11) (oi := { dst := some 27, op := Op.pick (Operand.tmp 19) (Operand.const (Value.bool true)) (Operand.tmp 26), type := 4, pos := "law.go:71", after := #[{ on := 3, ground := Ground.data }, { on := 10, ground := Ground.data }], guard := none }) (v := ?pv11) rfl (by kernel_rfl) (by kernel_rfl) (by kernel_rfl) (fun _ _ _ h => h) (Or.inl ⟨by rfl, ?ph11⟩) (by assumption) ?pr11
    case ph11 => ((intro w hSw; (try dsimp only at hSw); go_simp); try with_reducible rfl)
    try simp only [Act.put, List.setIfInBounds_toArray, List.set_cons_zero, List.set_cons_succ]
    refine wpAnyH_take (i := 12) (oi := { dst := some 28, op := Op.move (Operand.tmp 27), type := 4, pos := "law.go:71", after := #[{ on := 11, ground := Ground.data }, { on := 3, ground := Ground.chain }], guard := none }) (v := ?pv12) rfl (by kernel_rfl) (by kernel_rfl) (by kernel_rfl) (fun _ _ _ h => h) (Or.inl ⟨by rfl, ?ph12⟩) (by assumption) ?pr12
    case ph12 => ((intro w hSw; (try dsimp only at hSw); go_simp); try with_reducible rfl)
    try simp only [Act.put, List.setIfInBounds_toArray, List.set_cons_zero, List.set_cons_succ]
    refine wpAnyH_take (i := 13) (oi := { dst := some 29, op := Op.load 24 (Operand.tmp 8), type := 24, pos := "law.go:71", after := #[{ on := 12, ground := Ground.guard }], guard := some (12, false) }) (v := ?pv13) rfl (by kernel_rfl) (by kernel_rfl) (by kernel_rfl) (fun _ _ _ h => h) (Or.inl ⟨by rfl, ?ph13⟩) (by assumption) ?pr13
    case ph13 => ((intro w hSw; (try dsimp only at hSw); go_simp); try with_reducible rfl)
    try simp only [Act.put, List.setIfInBounds_toArray, List.set_cons_zero, List.set_cons_succ]
    refine wpAnyH_take (i := 14) (oi := { dst := some 30, op := Op.load 68 (Operand.tmp 3), type := 68, pos := "law.go:71", after := #[{ on := 12, ground := Ground.guard }], guard := some (12, false) }) (v := ?pv14) rfl (by kernel_rfl) (by kernel_rfl) (by kernel_rfl) (fun _ _ _ h => h) (Or.inl ⟨by rfl, ?ph14⟩) (by assumption) ?pr14
    case ph14 => ((intro w hSw; (try dsimp only at hSw); go_simp); try with_reducible rfl)
    try simp only [Act.put, List.setIfInBounds_toArray, List.set_cons_zero, List.set_cons_succ]
    refine wpAnyH_take (i := 15) (oi := { dst := some 31, op := Op.nilCheck (Operand.tmp 30), type := 0, pos := "law.go:71", after := #[{ on := 14, ground := Ground.data }, { on := 12, ground := Ground.guard }], guard := some (12, false) }) (v := ?pv15) rfl (by kernel_rfl) (by kernel_rfl) (by kernel_rfl) (fun _ _ _ h => h) (Or.inl ⟨by rfl, ?ph15⟩) (by assumption) ?pr15
    case ph15 => ((intro w hSw; (try dsimp only at hSw); go_simp); try with_reducible rfl)
    try simp only [Act.put, List.setIfInBounds_toArray, List.set_cons_zero, List.set_cons_succ]
    refine wpAnyH_take (i := 16) (oi := { dst := some 32, op := Op.fieldAddr 83 (Operand.tmp 31) 0, type := 0, pos := "law.go:71", after := #[{ on := 15, ground := Ground.data }, { on := 12, ground := Ground.guard }], guard := some (12, false) }) (v := ?pv16) rfl (by kernel_rfl) (by kernel_rfl) (by kernel_rfl) (fun _ _ _ h => h) (Or.inl ⟨by rfl, ?ph16⟩) (by assumption) ?pr16
    case ph16 => ((intro w hSw; (try dsimp only at hSw); go_simp); try with_reducible rfl)
    try simp only [Act.put, List.setIfInBounds_toArray, List.set_cons_zero, List.set_cons_succ]
    refine wpAnyH_take (i := 17) (oi := { dst := some 33, op := Op.load 31 (Operand.tmp 32), type := 31, pos := "law.go:71", after := #[{ on := 16, ground := Ground.data }, { on := 12, ground := Ground.guard }], guard := some (12, false) }) (v := ?pv17) rfl (by kernel_rfl) (by kernel_rfl) (by kernel_rfl) (fun _ _ _ h => h) (Or.inl ⟨by rfl, ?ph17⟩) (by assumption) ?pr17
    case ph17 => ((intro w hSw; (try dsimp only at hSw); go_simp); try with_reducible rfl)
    try simp only [Act.put, List.setIfInBounds_toArray, List.set_cons_zero, List.set_cons_succ]
    refine wpAnyH_take (i := 18) (oi := { dst := some 34, op := Op.load 3 (Operand.tmp 6), type := 3, pos := "law.go:71", after := #[{ on := 12, ground := Ground.guard }], guard := some (12, false) }) (v := ?pv18) rfl (by kernel_rfl) (by kernel_rfl) (by kernel_rfl) (fun _ _ _ h => h) (Or.inl ⟨by rfl, ?ph18⟩) (by assumption) ?pr18
    case ph18 => ((intro w hSw; (try dsimp only at hSw); go_simp); try with_reducible rfl)
    try simp only [Act.put, List.setIfInBounds_toArray, List.set_cons_zero, List.set_cons_succ]
    refine wpAnyH_take (i := 19) (oi := { dst := some 35, op := Op.indexAddr 31 (Operand.tmp 33) (Operand.tmp 34), type := 0, pos := "law.go:71", after := #[{ on := 17, ground := Ground.data }, { on := 18, ground := Ground.data }, { on := 12, ground := Ground.guard }], guard := some (12, false) }) (v := ?pv19) rfl (by kernel_rfl) (by kernel_rfl) (by kernel_rfl) (fun _ _ _ h => h) (Or.inl ⟨by rfl, ?ph19⟩) (by assumption) ?pr19
    case ph19 => ((intro w hSw; (try dsimp only at hSw); go_simp); try with_reducible rfl)
    try simp only [Act.put, List.setIfInBounds_toArray, List.set_cons_zero, List.set_cons_succ]
    refine wpAnyH_take (i := 20) (oi := { dst := some 36, op := Op.load 24 (Operand.tmp 35), type := 24, pos := "law.go:71", after := #[{ on := 19, ground := Ground.data }, { on := 12, ground := Ground.guard }], guard := some (12, false) }) (v := ?pv20) rfl (by kernel_rfl) (by kernel_rfl) (by kernel_rfl) (fun _ _ _ h => h) (Or.inl ⟨by rfl, ?ph20⟩) (by assumption) ?pr20
    case ph20 => ((intro w hSw; (try dsimp only at hSw); go_simp); try with_reducible rfl)
    try simp only [Act.put, List.setIfInBounds_toArray, List.set_cons_zero, List.set_cons_succ]
    refine wpAnyH_ready (rs := [21]) (by kernel_rfl) (by simp) ?_
    refine AllReadyH.cons (o := { dst := some 37, op := Op.call { callee := Callee.value (Operand.func 18), args := #[Operand.tmp 29, Operand.tmp 36], argTypes := #[24, 24] }, type := 4, pos := "law.go:71", after := #[{ on := 13, ground := Ground.data }, { on := 20, ground := Ground.data }, { on := 12, ground := Ground.chain }, { on := 12, ground := Ground.guard }], guard := some (12, false) }) rfl (fun K hK => ?_) AllReadyH.nil
    go_simp
    go_at_call 18; (with_reducible refine (HSM.out _ (by assumption)).mono ?_); rintro e w9 ⟨rfl, hb9⟩; have hq9 : Below W1.heap.size W1 w9 := below_more hb9 (by assumption) (Nat.le_refl _)
    refine hK.out _ _ (by assumption) (fun hHeld => ?_)
    clear hK K
    try simp only [Act.put, List.setIfInBounds_toArray, List.set_cons_zero, List.set_cons_succ]
    refine wpAnyH_take (i := 22) (oi := { dst := some 38, op := Op.unOp UnOp.not 4 (Operand.tmp 37), type := 4, pos := "law.go:71", after := #[{ on := 21, ground := Ground.data }, { on := 12, ground := Ground.guard }], guard := some (12, false) }) (v := ?pv22) rfl (by kernel_rfl) (by kernel_rfl) (by kernel_rfl) (fun _ _ _ h => h) (Or.inl ⟨by rfl, ?ph22⟩) (by assumption) ?pr22
    case ph22 => ((intro w hSw; (try dsimp only at hSw); go_simp); try with_reducible rfl)
    try simp only [Act.put, List.setIfInBounds_toArray, List.set_cons_zero, List.set_cons_succ]
    refine wpAnyH_take (i := 23) (oi := { dst := some 39, op := Op.pick (Operand.tmp 28) (Operand.const (Value.bool true)) (Operand.tmp 38), type := 4, pos := "law.go:71", after := #[{ on := 12, ground := Ground.data }, { on := 22, ground := Ground.data }], guard := none }) (v := ?pv23) rfl (by kernel_rfl) (by kernel_rfl) (by kernel_rfl) (fun _ _ _ h => h) (Or.inl ⟨by rfl, ?ph23⟩) (by assumption) ?pr23
    case ph23 => ((intro w hSw; (try dsimp only at hSw); go_simp); try with_reducible rfl)
    try simp only [Act.put, List.setIfInBounds_toArray, List.set_cons_zero, List.set_cons_succ]
    refine wpAnyH_done (by kernel_rfl) ?_ _
    have HQ9 := hid hq9
    have fk := f0 _ hq9
    have hK9 : w9.heap[w2.heap.size]? = some (.cells #[i64 pre.length] 3 (0, 0)) := (hq9.block _ hlk).trans HI.out.2.1
    have ff : w9.frozen? ⟨w2.heap.size, 0, none⟩ = false := frozen_of_row _ _ _ _ _ hK9
    have HK9 := hid hK9
    have hlk9 : w2.heap.size < w9.heap.size := (Array.getElem?_eq_some_iff.1 hK9).1
    have hpl : pre.length ≤ 4096 := by have := HR.len; omega
    clear hb9 hS0 f0 f1 f2 a0 a1 a2 a3 a4 a5 a6 b0 b1 b2 b3 b4 b5 b6 hK9 hq9 hHeld hge hge2
    gi_wp2
    obtain ⟨hI1, hI2, hI3, hI4, hI5⟩ := HI.out
    have hq9 := HQ9.out
    have hs9 := hq9.size
    have hsI := hI1.hs
    refine ⟨(KeepsT.below hq9).trans (KeepsT.setCell w9 _ _ ?_), ⟨?_, ?_, ?_, ?_, ?_⟩, ?_, ?_, ?_, hI5⟩
    · rintro ((h | h) | h | h)
      · exact hI4 h
      · have h' : hs ≤ w2.heap.size := h.1
        omega
      · have h' : w2.heap.size = (w2.alloc (.cells #[.int .i64 0] 3)).heap.size := h
        simp at h'
      · have h' : w2.heap.size = (w2.alloc (.cells #[.int .i64 0] 3)).heap.size + 1 := h
        simp at h'
        omega
    · exact (hI1.b.trans (hq9.mono hI1.b.size)).setCell (show w.heap.size ≤ w2.heap.size by omega) _
    · exact (Below.heap_setCell _ _ _ _ (show w.heap.size ≠ w2.heap.size by omega)).trans ((hq9.block _ hlp).trans hI1.p)
    · exact (Below.heap_setCell _ _ _ _ (show w.heap.size + 1 ≠ w2.heap.size by omega)).trans ((hq9.block _ (Array.getElem?_eq_some_iff.1 hI1.r).1).trans hI1.r)
    · rintro k (h | h)
      · have := hI1.lt k h
        simp; omega
      · simp; omega
    · exact Nat.le_refl _
    · have : (w9.setCell ⟨w2.heap.size, 0, none⟩ (i64 ((pre.length : Int) + 1))).heap[w2.heap.size]? = some (.cells #[i64 ((pre.length : Int) + 1)] 3 (0, 0)) := heap_setCell_same w9 w2.heap.size 0 _ _ _ HK9.out
      rw [List.length_append, List.length_singleton]
      exact this
    · simpa using hlk9
    · rintro (h | h)
      · exact hI4 h
      · have h' : hs ≤ w2.heap.size := h.1
        omega
  case donea =>
    clear hseq HAL
    subst hkb
    rintro xs T hs W1 hS hI hD
    obtain ⟨hI1, hI2, hI3, hI4, hI5⟩ := hI
    have hcs : S.cs = ys.map CeR.x := HR.cs
    have hxl : xs.length = ys.length := by
      have e1 := congrArg List.length hS
      have e2 := congrArg List.length hcs
      simp at e1 e2; omega
    have HR1 := HR.below hI1.b
    obtain ⟨p0, c0, rfl, hnc, hcm, _⟩ := own_row HR1.own
    have hlenI : ys.length ≤ 9223372036854775807 := by unfold maxLen at hcm; omega
    rw [hxl] at hI2
    have hlk := (Array.getElem?_eq_some_iff.1 hI2).1
    have hlp := (Array.getElem?_eq_some_iff.1 hI1.p).1
    have hlr := (Array.getElem?_eq_some_iff.1 hI1.r).1
    have hld := HR1.lt _ HR1.fd
    have hbd : d2 < w.heap.size := HR.lt _ HR.fd
    have HH := hdR_cells HR1.head
    have hkc : W1.cell? ⟨w2.heap.size, 0, none⟩ = some (i64 ys.length) := cell_of_row _ _ 0 _ _ _ hI2
    have hpc : W1.cell? ⟨w.heap.size, 0, none⟩ = some (.pointer (some ⟨d2, 0, none⟩)) := cell_of_row _ _ 0 _ _ _ hI1.p
    have hrc : W1.cell? ⟨w.heap.size + 1, 0, none⟩ = some (.bool false) := cell_of_row _ _ 0 _ _ _ hI1.r
    have hrf : W1.frozen? ⟨w.heap.size + 1, 0, none⟩ = false := frozen_of_row _ _ _ _ _ hI1.r
    obtain ⟨hd0, hd1⟩ := HH
    have HB1 := hid hI1.b
    have HD := hid hD
    have HI2 := hid hI2
    have HZ := hid hI5
    have f0 : ∀ w', DS W1 (w.heap.size + 1) w' → w'.cell? ⟨w2.heap.size, 0, none⟩ = some (i64 ys.length) := fun w' h => (h.cell (by omega)).trans hkc
    have f1 : ∀ w', DS W1 (w.heap.size + 1) w' → w'.cell? ⟨w.heap.size, 0, none⟩ = some (.pointer (some ⟨d2, 0, none⟩)) := fun w' h => (h.cell (by omega)).trans hpc
    have f2 : ∀ w', DS W1 (w.heap.size + 1) w' → w'.cell? ⟨d2, 0, none⟩ = some (.slice p0 ys.length c0) := fun w' h => (h.cell (by omega)).trans hd0
    have f3 : ∀ w', DS W1 (w.heap.size + 1) w' → w'.cell? ⟨d2, 1, none⟩ = some (i64 S.steps) := fun w' h => (h.cell (by omega)).trans hd1
    have HLT := hid (And.intro hlr (And.intro hlk hlp))
    clear hI1 hI2 hD hxl hcs hS hkc hpc hd0 hd1 HR1 hI5 hI3
    gi_wp2
    refine wpIn_wide.2 ?_
    have hDS : DS W1 (w.heap.size + 1) W1.drew := ⟨rfl, fun _ _ => rfl⟩
    go_region_held3 (fun w' => DS W1 (w.heap.size + 1) w') (first | (with_reducible assumption) | (with_reducible ((repeat (first | refine DS.drew ?_ | refine DS.set ?_ _ _)); exact DS.refl _ _)))
      (first | (go_at_call 25; (with_reducible refine (HST.out _ (by first | exact HB1.out.drew | exact HB1.out)).mono ?_); rintro e w9 ⟨rfl, hw9⟩; subst hw9))
    gi_wp2
    obtain ⟨WS, hWS⟩ : ∃ x, x = (W1.setCell ⟨w.heap.size + 1, 0, none⟩ (.bool true)).drew := ⟨_, rfl⟩
    rw [← hWS]
    have hzz := HZ.out
    have hD2 := HD.out
    rw [World.size_alloc] at hD2
    have dB : WS.heap[w2.heap.size + 1]? = some (.deferred (some [])) := by
      rw [hWS]; exact (Below.heap_setCell _ _ _ _ (show w2.heap.size + 1 ≠ w.heap.size + 1 by omega)).trans hD2
    have cS : WS.cell? ⟨w.heap.size + 1, 0, none⟩ = some (.bool true) := by rw [hWS]; exact World.cell?_setCell_same _ _ _ hrc
    have cS2 := cell_kept cS (grownBy_putObj' WS (w2.heap.size + 1) (.deferred none)) (fun r e => by cases e; exact ⟨_, dB, rfl⟩)
    have bS : Below w.heap.size w WS := by rw [hWS]; exact (HB1.out.setCell (by simp) _).drew
    have bS2 := Below.putObjB bS bS.size (l := w2.heap.size + 1) (by omega) (.deferred none)
    refine ⟨by simp, .inl ⟨_, _, rfl, run_takeDeferred dB, ?_⟩⟩
    exact ⟨.bool true, by simp [results, Try.results31, go_sem, cS2], rfl, bS2⟩
end Go.Proofs.Ytfpgdaefdpjcmaa
