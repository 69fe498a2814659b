/-
  The iterator over the names of what is defined elsewhere, and what is told of it.
-/
import Derived.Test.YteccpmmedpkddaaUnd
import Derived.Test.YteccpmmedpkddaaRangeO
import Derived.Test.YteccpmmedpkddaaOwnIn
import Derived.WalkMore
import Derived.LoopNIn
import Derived.LoopIn
import Derived.TacticsInMore
import Derived.OwnWalkIn
import Derived.Shelf.Abstract
namespace Go.Proofs.Yteccpmmedpkddaa
open Go.RowKit
attribute [local go_sem] Oper.semAt_some
theorem wide_fn (f : FuncId) : Fence.wide.fn f = True := rfl
theorem wide_depth : Fence.wide.depth = none := rfl
attribute [local go_sem] wide_fn wide_depth

theorem room_of_none {F : Fence} (hd : F.depth = none) (k : Nat) : F.room k := fun d h => by rw [hd] at h; cases h
theorem RoundIn.anyDepth {F : Fence} (hd : F.depth = none) {m m' : Nat} {P : Program} {l : Nat} {f : FuncId} {tmps : Array Value} {assign body : Code} {w : World} {R : Ending → World → Prop}
    (h : RoundIn F m P l f tmps assign body w R) : RoundIn F m' P l f tmps assign body w R := ⟨h.1, fun c cs _ => h.2 c cs (room_of_none hd _)⟩

theorem Row.own_keeps {W W' : World} {p : Option Addr} {cs : List Value} {n₀ : Nat} (h : Row W p cs) (hb : Below n₀ W W') (hp : ∀ a, p = some a → a.block < n₀) : Row W' p cs := by
  intro hcs
  obtain ⟨b, f, rfl, hc⟩ := h hcs
  exact ⟨b, f, rfl, fun i hi => (hb.cell (p := ⟨b, f + i, none⟩) (hp ⟨b, f, none⟩ rfl)).trans (hc i hi)⟩

def encS (x : ByteArray) : Array Value := #[.string x]
set_option maxHeartbeats 1000000 in
theorem values1_seq (n : Nat) (hn : 1 ≤ n) (ls : List ByteArray) (hm : ls.length ≤ 1000000) (n₀ : Nat) (T : TypeId) (b : Nat) (q : Option Addr) (c : Nat) (w : World) (hbw : b < w.heap.size) (hcb : w.cell? ⟨b, 0, none⟩ = some (.slice q ls.length c)) (hn0 : n₀ ≤ w.heap.size) (hrow : Row w q (strs ls)) (hq : ∀ a, q = some a → a.block < n₀) :
    SeqO Fence.wide n Try.prog 70 #[.pointer (some ⟨b, 0, none⟩)] encS (KpO n₀ T) (fun ys => ys = ls) (fun pre => ∃ suf, pre ++ suf = ls) ls.length w := by
  intro l J Jx W hW hJ hJx hY h0
  have hc0 := (hW.cell (p := ⟨b, 0, none⟩) hbw).trans hcb
  have hszW := hW.size
  have hr0 : Row W q (strs ls) := hrow.below hW
  show CallsIn Fence.wide n Try.prog 70 #[.func (.yield l) #[] #[], .pointer (some ⟨b, 0, none⟩)] W _
  refine callsIn_of_wp Try.func70 rfl (show Fence.wide.fn 70 from trivial) ?_ rfl
  simp only [Try.ntmps70, List.size_toArray, List.length_cons, List.length_nil, Nat.reduceAdd, Nat.reduceSub, Array.replicate_succ, Array.replicate_zero, List.push_toArray, List.append_toArray, List.nil_append, List.cons_append]
  gi_wp2
  gi_loopw [7] (fun i wr => ∃ k : Nat, k ≤ ls.length ∧ i = .int .i64 k ∧ J (ls.take k) wr ∧ Below n₀ W wr) (fun i _ => ls.length - (intOf i).toNat)
  case atStart => exact ⟨0, Nat.zero_le _, rfl, h0, Below.refl _ _⟩
  case round =>
    obtain ⟨k, hk, rfl, hJs, hnx⟩ := hrel
    by_cases hlt : k < ls.length
    · have hrk := hr0.own_keeps hnx hq
      obtain ⟨rb, ro, rfl, hrc⟩ := hrk (by intro e; have := congrArg List.length e; simp [strs] at this; subst this; simp at hlt)
      have hcx : wr.cell? ⟨rb, ro + k, none⟩ = some (.string ls[k]) := by
        have := hrc k (by simpa [strs] using hlt)
        simpa [strs] using this
      clear hrc hrk
      have HT := hid (take_succ ls k hlt)
      obtain ⟨fn, tmps, assign, body, hy, hR⟩ := hY _ ls[k] wr hJs (by rw [List.length_take]; omega)
      have HP := hid (List.take_append_drop (k + 1) ls)
      generalize ls[k] = x at hcx hy hR HT
      simp only [encS] at hy
      clear hY
      gi_wp2
      refine hR.mono ?_
      rintro e W3 ⟨(⟨rfl, hJ3, hk3⟩ | ⟨rfl, hJx3⟩), _⟩
      · gi_wp2
        go_roundw
        case rel => exact ⟨k + 1, by omega, by go_num, by rw [HT.out]; exact hJ3, hnx.trans hk3.1⟩
        case measure => simp [intOf]; omega
      · gi_wp2
        refine bodyPost_ret (results_none rfl _ _ _) rfl ?_
        exact ⟨⟨_, rfl⟩, .inr ⟨_, ⟨ls.drop (k + 1), by rw [← HT.out]; exact HP.out⟩, hJx3⟩⟩
    · obtain rfl : k = ls.length := by omega
      have HA : Hid (ls.take ls.length = ls) := List.take_of_length_le (Nat.le_refl _)
      gi_wp2
      go_end0
      exact ⟨⟨_, rfl⟩, .inl ⟨_, HA.out, hJs⟩⟩

theorem values_any (q : Option Addr) (m c : Nat) (w : World) :
    Calls Try.prog 51 #[.slice q m c] w fun e w' => e = .returned (.func (.func 70) #[] #[.pointer (some ⟨w.heap.size, 0, none⟩)]) ∧ w' = w.alloc (.cells #[.slice q m c] 43) := by
  go_enter Try.func51, Try.ntmps51
  go_wp2
  go_ret
  exact ⟨rfl, rfl⟩

theorem heap_kept {W W' : World} {row : Option Nat} {k : Nat} {o : Obj} (hg : W.grownBy W' row) (hr : ∀ r, row = some r → ∃ o : Obj, W.heap[r]? = some o ∧ o.isCells = false) (h : W.heap[k]? = some o) (ho : o.isCells = true) : W'.heap[k]? = some o :=
  (hg.block k (Array.getElem?_eq_some_iff.1 h).1 (fun e => by obtain ⟨o', h1, h2⟩ := hr k e.symm; rw [h] at h1; cases h1; rw [ho] at h2; cases h2)).trans h

set_option maxHeartbeats 1000000 in
theorem und1_seq (n : Nat) (hn : 4 ≤ n) (ls : List ByteArray) (hm : ls.length ≤ 1000000) (n₀ : Nat) (b : Nat) (q : Option Addr) (c : Nat) (w : World) (hbw : b < w.heap.size) (hcb : w.cell? ⟨b, 0, none⟩ = some (.slice q ls.length c)) (hn0 : n₀ ≤ w.heap.size) (hrow : Row w q (strs ls)) (hq : ∀ a, q = some a → a.block < n₀) :
    SeqO Fence.wide n Try.prog 50 #[.pointer (some ⟨b, 0, none⟩)] encS (KpO n₀ 74) (fun ys => ys = ls) (fun pre => ∃ suf, pre ++ suf = ls) ls.length w := by
  intro l J Jx W hW hJ hJx hY h0
  have hc0 := (hW.cell (p := ⟨b, 0, none⟩) hbw).trans hcb
  have hszW := hW.size
  have hbW : b < W.heap.size := by omega
  have hr0 : Row W q (strs ls) := hrow.below hW
  show CallsIn Fence.wide n Try.prog 50 #[.func (.yield l) #[] #[], .pointer (some ⟨b, 0, none⟩)] W _
  refine callsIn_of_wp_marks Try.func50 rfl (show Fence.wide.fn 50 from trivial) ?_ rfl
  simp only [Try.ntmps50, List.size_toArray, List.length_cons, List.length_nil, Nat.reduceAdd, Nat.reduceSub, Array.replicate_succ, Array.replicate_zero, List.push_toArray, List.append_toArray, List.nil_append, List.cons_append]
  gi_wp2_with (gi_at_call 51; refine (callsIn_wide.2 (values_any _ _ _ _)).mono ?_; rintro e w2 ⟨rfl, rfl⟩)
  obtain ⟨W0, hW0⟩ : ∃ W0, (W.alloc (.cells #[.func (.yield l) #[] #[]] 74)).alloc (.cells #[.slice q ls.length c] 43) = W0 := ⟨_, rfl⟩
  rw [hW0]
  have hs0 : W0.heap.size = W.heap.size + 2 := by rw [← hW0]; simp
  have hb0 : Below W.heap.size W W0 := by rw [← hW0]; exact ((Below.refl _ _).alloc (Nat.le_refl _) _).alloc (by simp) _
  have hbox : W0.heap[W.heap.size]? = some (.cells #[.func (.yield l) #[] #[]] 74 (0, 0)) := by rw [← hW0]; exact (Below.heap_alloc _ _ _ (by simp)).trans (heap_alloc_new W _)
  have hcl : W0.cell? ⟨W.heap.size + 1, 0, none⟩ = some (.slice q ls.length c) := by
    have hn := heap_alloc_new (W.alloc (.cells #[.func (.yield l) #[] #[]] 74)) (.cells #[.slice q ls.length c] 43)
    rw [hW0, World.size_alloc] at hn
    exact cell_of_row W0 _ 0 _ _ _ hn
  have hJ0 : J [] W0 := by rw [← hW0]; exact hJ.alloc _ (hJ.alloc _ h0)
  have hseq := values1_seq (n - 1) (by omega) ls hm n₀ 74 (W.heap.size + 1) q c W0 (by omega) hcl (by omega) (hr0.below hb0) hq
  clear hcl hW0 h0
  refine wpIn_rangeFunc_O rfl (by omega) (gf := 70) (lb := #[.pointer (some ⟨W.heap.size + 1, 0, none⟩)]) rfl trivial (enters_of Try.func70 (by kernel_rfl) rfl) hseq
    KpO.trans (fun W l o o' hl h1 h2 h3 => KpO.putObj (by omega) W l o o' hl h1 h2 h3) (Below.refl _ _) (fun _ => rfl)
    (fun pre W' => J pre W' ∧ W'.heap[W.heap.size]? = some (.cells #[.func (.yield l) #[] #[]] 74 (0, 0))) (fun c pre W' => c = .ret ∧ Jx pre W')
    (fun s A B row hs hg hr => ⟨hJ s A B row hs.1 hg (fun r e => ⟨by have := (hr r e).1; omega, (hr r e).2⟩), heap_kept hg (fun r e => (hr r e).2) hs.2 rfl⟩)
    (fun c s A B row hs hg hr => ⟨hs.1, hJx s A B row hs.2 hg (fun r e => ⟨by have := (hr r e).1; omega, (hr r e).2⟩)⟩)
    ⟨hJ0, hbox⟩
    (fun x => { tmps := #[Value.func (Fn.yield l) #[] #[], Value.pointer (some { block := b, off := 0 }), Value.pointer (some { block := W.heap.size, off := 0 }), .string x, Value.slice q ls.length c,
          Value.func (Fn.func 70) #[] #[Value.pointer (some { block := W.heap.size + 1, off := 0 })], .string x, undef, undef, undef, undef], defers := [] })
    ?assign ?body ?done ?stop
  case assign =>
    intro l x W K hK
    simp only [encS]
    gi_wp2
    exact hK
  case body =>
    rintro l' pre x W1 ⟨hj, hbx⟩ hlen
    obtain ⟨fn, tmps, assign, body, hy, hR⟩ := hY pre x W1 hj hlen
    simp only [encS] at hy
    have hR := RoundIn.anyDepth (m' := n - 1 - 1 - 1) rfl hR
    have hcb1 := cell_of_row W1 W.heap.size 0 _ _ _ hbx
    simp at hcb1
    have HB := hid hbx
    clear hbx hY
    gi_wp2
    refine hR.mono ?_
    rintro e W3 ⟨(⟨rfl, hJ3, hk3⟩ | ⟨rfl, hJx3⟩), hkf⟩
    · gi_wp2
      exact ⟨⟨hkf.size, fun k o hB => hkf.same k o (by omega)⟩, hk3, hJ3, hk3.2.2 _ _ _ HB.out⟩
    · gi_wp2
      exact ⟨⟨hkf.size, fun k o hB => hkf.same k o (by omega)⟩, rfl, hJx3⟩
  case done =>
    rintro xs W1 rfl ⟨hj, _⟩ hD
    gi_wp2
    refine ⟨by simp, .inl ⟨_, _, rfl, run_takeDeferred hD, ?_⟩⟩
    exact ⟨_, results_none rfl _ _ _, ⟨_, rfl⟩, .inl ⟨_, rfl, hJ.putObj _ hj (by omega) hD rfl⟩⟩
  case stop =>
    rintro c pre W1 hpre ⟨rfl, hj⟩ hD
    gi_wp2
    refine ⟨by simp, .inl ⟨_, _, rfl, run_takeDeferred hD, ?_⟩⟩
    exact ⟨_, results_none rfl _ _ _, ⟨_, rfl⟩, .inr ⟨_, hpre, hJx.putObj _ hj (by omega) hD rfl⟩⟩

set_option maxHeartbeats 1000000 in
theorem undI_any (o : Ob) (w : World) (ho : o.ok w) :
    Calls Try.prog 25 #[.agg o.cells.toArray] w fun e w' => ∃ b q c, e = .returned (.func (.func 50) #[] #[.pointer (some ⟨b, 0, none⟩)]) ∧ w'.cell? ⟨b, 0, none⟩ = some (.slice q (undP o.syms).length c) ∧ b < w'.heap.size ∧ Row w' q (strs (undP o.syms)) ∧ (∀ a, q = some a → a.block < w'.heap.size) ∧ Below w.heap.size w w' := by
  have HU := hid (fun w1 (hb : Below w.heap.size w w1) => und_any o w1 (ho.below hb))
  unfold UndPost at HU
  obtain ⟨secs, sp, sc, syms, yp, yc⟩ := o
  dsimp only at HU ⊢
  show Calls Try.prog 25 #[.agg #[.slice sp secs.length sc, .slice yp syms.length yc]] w _
  clear ho
  go_enter Try.func25, Try.ntmps25
  go_wp2_with (go_at_call 49; refine (HU.out _ ((Below.refl _ _).alloc (Nat.le_refl _) _)).mono ?_; rintro e w2 ⟨v, rfl, ho2, hb2⟩; have HO2 := hid ho2; obtain ⟨q, c, rfl, _, _, hrq, _, hge⟩ := own_row ho2; clear ho2)
  go_ret
  have hbx := heap_alloc_new w2 (.cells #[.slice q (undP syms).length c] 43)
  have hba : Below w2.heap.size w2 (w2.alloc (.cells #[.slice q (undP syms).length c] 43)) := (Below.refl _ _).alloc (Nat.le_refl _) _
  have hsz2 := hb2.size
  simp only [World.size_alloc] at hsz2
  refine ⟨_, q, c, rfl, cell_of_row _ _ 0 _ _ _ hbx, by simp, hrq.below hba, fun a ha => ?_, ?_⟩
  · have := own_lt HO2.out a.block (by subst ha; rfl)
    simp; omega
  · exact (((Below.refl _ _).alloc (Nat.le_refl _) _).trans (hb2.mono (by simp))).alloc (by omega) _

theorem own_keptR {W W' : World} {row : Option Nat} {base : Nat} {e : TypeId} {size : Nat} {v : Value} {k : Nat} {xs : List Value} (h : W.ownsRow base e size v k xs) (hg : W.grownBy W' row)
    (hrow : ∀ r, row = some r → ∃ o : Obj, W.heap[r]? = some o ∧ o.isCells = false) : W'.ownsRow base e size v k xs := by
  refine h.kept hg ?_
  rcases h.2 with ⟨rfl, _⟩ | ⟨g, cap, cur, rfl, _, hgb, _⟩
  · exact .inl rfl
  · refine .inr fun e' => ?_
    obtain ⟨o, ho, hw⟩ := hrow g (by simpa [Value.ownBlock] using e'.symm)
    rw [hgb] at ho; cases ho; cases hw
theorem own_type {W : World} {base : Nat} {e : TypeId} {size : Nat} {v : Value} {k : Nat} {xs : List Value} (h : W.ownsRow base e size v k xs) (g : Nat) (hg : v.ownBlock = some g) : ∃ cur, W.heap[g]? = some (.cells cur e (0, 0)) := by
  rcases h.2 with ⟨rfl, _⟩ | ⟨g', cap, cur, rfl, _, hgb, _⟩
  · cases hg
  · cases hg; exact ⟨cur, hgb⟩

structure ToldI (w : World) (m : Nat) (pre : List ByteArray) (v : Value) (W : World) : Prop where
  box : W.heap[w.heap.size + 1]? = some (.cells #[v] 43 (0, 0))
  num : W.heap[w.heap.size]? = some (.cells #[.int .i64 m] 3 (0, 0))
  own : W.ownsRow w.heap.size 9 1 v pre.length (strs pre)
  below : Below w.heap.size w W
theorem ToldI.kept {w W W' : World} {m : Nat} {pre : List ByteArray} {v : Value} {B : Nat} (h : ToldI w m pre v W) (hB : w.heap.size ≤ B) {row : Option Nat} (hg : W.grownBy W' row) (hr : ∀ r, row = some r → B ≤ r ∧ ∃ o : Obj, W.heap[r]? = some o ∧ o.isCells = false) : ToldI w m pre v W' :=
  ⟨heap_kept hg (fun r e => (hr r e).2) h.box rfl, heap_kept hg (fun r e => (hr r e).2) h.num rfl, own_keptR h.own hg (fun r e => (hr r e).2), h.below.grown hg h.below.size (fun k e => Nat.le_trans hB (hr k e).1)⟩

set_option maxHeartbeats 1000000 in
theorem told_any (ls : List ByteArray) (hm : ls.length ≤ 1000000) (b : Nat) (q : Option Addr) (c m : Nat) (w : World) (hbw : b < w.heap.size) (hcb : w.cell? ⟨b, 0, none⟩ = some (.slice q ls.length c)) (hrow : Row w q (strs ls)) (hq : ∀ a, q = some a → a.block < w.heap.size) :
    Calls Try.prog 24 #[.func (.func 50) #[] #[.pointer (some ⟨b, 0, none⟩)], .int .i64 m] w fun e w' => ∃ v, e = .returned v ∧ w'.ownsRow w.heap.size 9 1 v (ls.take m).length (strs (ls.take m)) ∧ Below w.heap.size w w' := by
  have hnf : ∀ (w : World) (a : Addr), (binOp .eql 48 (.func (.func 50) #[] #[.pointer (some a)]) .nilFunc).run Try.prog w = .ok (.bool false) w := fun w a => by kernel_rfl
  refine callsIn_wide.1 (?_ : CallsIn Fence.wide 8 Try.prog 24 #[.func (.func 50) #[] #[.pointer (some ⟨b, 0, none⟩)], .int .i64 m] w _)
  refine callsIn_of_wp_marks Try.func24 rfl (show Fence.wide.fn 24 from trivial) ?_ rfl
  simp only [Try.ntmps24, List.size_toArray, List.length_cons, List.length_nil, Nat.reduceAdd, Nat.reduceSub, Array.replicate_succ, Array.replicate_zero, List.push_toArray, List.append_toArray, List.nil_append, List.cons_append]
  gi_wp2
  obtain ⟨W0, hW0⟩ : ∃ W0, (w.alloc (.cells #[.int .i64 m] 3)).alloc (.cells #[.slice none 0 0] 43) = W0 := ⟨_, rfl⟩
  rw [hW0]
  have hs0 : W0.heap.size = w.heap.size + 2 := by rw [← hW0]; simp
  have hb0 : Below w.heap.size w W0 := by rw [← hW0]; exact ((Below.refl _ _).alloc (Nat.le_refl _) _).alloc (by simp) _
  have hT0 : ToldI w m [] (.slice none 0 0) W0 := by
    refine ⟨?_, ?_, World.ownsRow_nil _ _ _ _, hb0⟩
    · have hn := heap_alloc_new (w.alloc (.cells #[.int .i64 m] 3)) (.cells #[.slice none 0 0] 43)
      rw [hW0, World.size_alloc] at hn
      exact hn
    · rw [← hW0]; exact (Below.heap_alloc _ _ _ (by simp)).trans (heap_alloc_new w _)
  have hseq := und1_seq 7 (by omega) ls hm w.heap.size b q c W0 (by omega) ((hb0.cell (p := ⟨b, 0, none⟩) hbw).trans hcb) (by omega) (hrow.below hb0) hq
  clear hW0 hb0
  refine wpIn_rangeFunc_O rfl (by omega) (gf := 50) (lb := #[.pointer (some ⟨b, 0, none⟩)]) rfl trivial (enters_of Try.func50 (by kernel_rfl) rfl) hseq
    KpO.trans (fun W l o o' hl h1 h2 h3 => KpO.putObj (by omega) W l o o' hl h1 h2 h3) (Below.refl _ _) (fun _ => rfl)
    (fun pre W' => pre.length ≤ m ∧ ∃ v, ToldI w m pre v W') (fun c pre W' => c = .exit 0 ∧ m < pre.length ∧ ∃ v, ToldI w m (pre.take m) v W')
    (fun s A B row hs hg hr => ⟨hs.1, by obtain ⟨v, h⟩ := hs.2; exact ⟨v, h.kept (by omega) hg hr⟩⟩)
    (fun c s A B row hs hg hr => ⟨hs.1, hs.2.1, by obtain ⟨v, h⟩ := hs.2.2; exact ⟨v, h.kept (by omega) hg hr⟩⟩)
    ⟨by simp, _, hT0⟩
    (fun x => { tmps := #[Value.func (Fn.func 50) #[] #[Value.pointer (some { block := b, off := 0 })], .int .i64 m, undef,
          Value.pointer (some { block := w.heap.size, off := 0 }), Value.slice none 0 0,
          Value.pointer (some { block := w.heap.size + 1, off := 0 }), .string x,
          Value.func (Fn.func 50) #[] #[Value.pointer (some { block := b, off := 0 })], Value.bool false,
          Value.func (Fn.func 50) #[] #[Value.pointer (some { block := b, off := 0 })], .string x, undef, undef, undef,
          undef, undef, undef, undef, undef, undef], defers := [] })
    ?assign ?body ?done ?stop
  case assign =>
    intro l x W K hK
    simp only [encS]
    gi_wp2
    exact hK
  case body =>
    rintro l' pre x W1 ⟨hpm, v, hT⟩ hlen
    have d1 := cell_of_row W1 _ 0 _ _ _ hT.box
    have d2 := cell_of_row W1 _ 0 _ _ _ hT.num
    have f1 := frozen_of_row W1 _ 0 _ _ hT.box
    simp at d1 d2
    have ho := hT.own
    obtain ⟨vp, vc, rfl, hvc, hvm, hvr, hvn, hvg⟩ := own_row ho
    have hlb : w.heap.size + 1 < W1.heap.size := (Array.getElem?_eq_some_iff.1 hT.box).1
    have hne1 : some (w.heap.size + 1) ≠ (Value.slice vp pre.length vc).ownBlock := fun e => by
      obtain ⟨cur, h⟩ := own_type ho _ e.symm
      rw [hT.box] at h; cases h
    have hne0 : some w.heap.size ≠ (Value.slice vp pre.length vc).ownBlock := fun e => by
      obtain ⟨cur, h⟩ := own_type ho _ e.symm
      rw [hT.num] at h; cases h
    have HT := hid hT
    clear hT
    by_cases hmm : m ≤ pre.length
    · have hmi : (m : Int) ≤ (pre.length : Int) := by omega
      gi_wp2
      exact ⟨KeepsFrom.refl _ _, rfl, by simp; omega, _, by rw [List.take_append_of_le_length hmm, List.take_of_length_le (by omega)]; exact HT.out⟩
    · have hmi : ¬ (m : Int) ≤ (pre.length : Int) := by omega
      gi_wp2_with ((with_reducible show wpListIn _ _ _ _ _ (⟨some 18, _, _, _, _, _⟩ :: _) _ _); go_loud (refine wpListIn_app E43 rfl _ _ rfl w.heap.size _ _ _ rfl (ho.alloc _) _ 1 1 [.string x] rfl rfl (by simp) (row_new _ _ _) (by simp [Value.oneCell']) (by unfold maxLen; omega) (by omega) (by have := HT.out.below.size; simp; omega) ?_); intro v2 w2 ho2 hg2 hs2; have hbx2 := (hg2.block (w.heap.size + 1) (by simp; omega) hne1).trans ((Below.heap_alloc _ _ _ hlb).trans HT.out.box); have d3 := cell_of_row w2 _ 0 _ _ _ hbx2; have f3 := frozen_of_row w2 _ 0 _ _ hbx2; simp at d3; have HO2 := hid ho2; obtain ⟨vp2, vc2, rfl, _⟩ := own_row ho2)
      have ho2 := HO2.out
      have hn2 := (hg2.block w.heap.size (by simp; omega) hne0).trans ((Below.heap_alloc _ _ _ (by omega)).trans HT.out.num)
      have hWs := HT.out.below.size
      have hs2z := hg2.size
      simp only [World.size_alloc] at hs2z
      have hgb := hg2.size
      have hgr : ∀ k, (Value.slice vp pre.length vc).ownBlock = some k → w.heap.size ≤ k ∧ ∃ cur, (W1.alloc (.cells #[.string x] 9)).heap[k]? = some (.cells cur 9 (0, 0)) := fun k e => ⟨own_ge HT.out.own k e, own_type (ho.alloc _) k e⟩
      have hb2 : Boxed w2 (w.heap.size + 1) 43 (.slice vp pre.length vc) := hbx2
      refine ⟨?_, ?_, by simp; omega, _, (hb2.set _ : _), ?_, ?_, ?_⟩
      · exact (((KeepsOthers.alloc W1 _).trans (KeepsOthers.of_grownBy hg2 (fun j o e h => by obtain ⟨cur, h2⟩ := (hgr j e).2; rw [h] at h2; cases h2; rfl))).trans (KeepsOthers.setCell w2 _ _)).from _
      · refine ((KpO.alloc W1 (by omega) _).trans (KpO.grown hg2 (by simp; omega) (fun k e => ⟨(hgr k e).1, fun cs fz h => by obtain ⟨cur, h2⟩ := (hgr k e).2; rw [h] at h2; cases h2⟩))).trans (KpO.grown (grownBy_setCell' w2 _ _) (by omega) (fun k e => ?_))
        cases e
        exact ⟨by omega, fun cs fz h => by rw [hbx2] at h; cases h⟩
      · exact (Below.heap_setCell _ _ _ _ (by simp)).trans hn2
      · have := own_setO ho2 ⟨w.heap.size + 1, 0, none⟩ (.slice vp2 (pre.length + 1) vc2) (fun g hg e => by obtain ⟨cur, h⟩ := own_type ho2 g hg; subst e; rw [hbx2] at h; cases h)
        simpa [strs] using this
      · exact ((HT.out.below.alloc (by omega) _).grown hg2 (by simp; omega) (fun k e => (hgr k e).1)).setCell (p := ⟨w.heap.size + 1, 0, none⟩) (by simp) _
  case done =>
    rintro xs W1 rfl ⟨hpm, v, hT⟩ hD
    have d1 := cell_of_row W1 _ 0 _ _ _ hT.box
    simp at d1
    gi_wp2
    refine ⟨by simp, .inl ⟨_, _, rfl, run_takeDeferred hD, ?_⟩⟩
    have hT2 := hT.kept (B := W0.heap.size) (by omega) (grownBy_putObj' W1 W0.heap.size (.deferred none)) (fun r e => by cases e; exact ⟨Nat.le_refl _, _, hD, rfl⟩)
    exact ⟨_, results_tmp rfl _ _ _, v, rfl, by rw [List.take_of_length_le hpm]; exact hT2.own, hT2.below⟩
  case stop =>
    rintro c pre W1 hpre ⟨rfl, hlt, v, hT⟩ hD
    have d1 := cell_of_row W1 _ 0 _ _ _ hT.box
    simp at d1
    gi_wp2
    refine ⟨by simp, .inl ⟨_, _, rfl, run_takeDeferred hD, ?_⟩⟩
    have hT2 := hT.kept (B := W0.heap.size) (by omega) (grownBy_putObj' W1 W0.heap.size (.deferred none)) (fun r e => by cases e; exact ⟨Nat.le_refl _, _, hD, rfl⟩)
    obtain ⟨suf, rfl⟩ := hpre
    exact ⟨_, results_tmp rfl _ _ _, v, rfl, by rw [List.take_append_of_le_length (by omega)]; exact hT2.own, hT2.below⟩

theorem eqS_any (ls : List ByteArray) (hm : ls.length ≤ 1000000) (p q : Option Addr) (c d : Nat) (w : World) (hp : Row w p (strs ls)) (hq : Row w q (strs ls)) :
    Calls Try.prog 23 #[.slice p ls.length c, .slice q ls.length d] w fun e w' => e = .returned (.bool true) ∧ Below w.heap.size w w' := by
  by_cases h0 : ls = []
  · subst h0
    refine (Try.slices_Equal_string_empty p q c 0 d w (by omega)).mono ?_
    rintro e w' ⟨rfl, rfl⟩
    exact ⟨rfl, Below.refl _ _⟩
  · obtain ⟨b1, o1, rfl, h1⟩ := hp (by simpa [strs] using h0)
    obtain ⟨b2, o2, rfl, h2⟩ := hq (by simpa [strs] using h0)
    have hc : ∀ (b o : Nat), (∀ i (hi : i < (strs ls).length), w.cell? ⟨b, o + i, none⟩ = some (strs ls)[i]) → ∀ j, j < ls.length → w.cell? ⟨b, o + j, none⟩ = some (.string (ls.getD j ByteArray.empty)) := fun b o h j hj => by
      have := h j (by simpa [strs] using hj)
      simpa [strs, List.getD_eq_getElem?_getD, hj] using this
    refine (Try.slices_Equal_string b1 o1 ls.length c b2 o2 ls.length d ls ls w (Nat.le_refl _) (Nat.le_refl _) (by omega) (by omega) (hc _ _ h1) (hc _ _ h2)).mono ?_
    rintro e w' ⟨rfl, n, rfl⟩
    exact ⟨by simp, below_drewN (Below.refl _ _) _⟩

theorem toldI_any (ls : List ByteArray) (hm : ls.length ≤ 1000000) (b : Nat) (q : Option Addr) (c : Nat) (mi : Int) (h0 : 0 ≤ mi) (w : World) (hbw : b < w.heap.size) (hcb : w.cell? ⟨b, 0, none⟩ = some (.slice q ls.length c)) (hrow : Row w q (strs ls)) (hq : ∀ a, q = some a → a.block < w.heap.size) :
    Calls Try.prog 24 #[.func (.func 50) #[] #[.pointer (some ⟨b, 0, none⟩)], .int .i64 mi] w fun e w' => ∃ p d, e = .returned (.slice p (ls.take mi.toNat).length d) ∧ Row w' p (strs (ls.take mi.toNat)) ∧ Below w.heap.size w w' := by
  have := told_any ls hm b q c mi.toNat w hbw hcb hrow hq
  rw [Int.toNat_of_nonneg h0] at this
  refine this.mono ?_
  rintro e w' ⟨v, rfl, ho, hb⟩
  obtain ⟨p, d, rfl, _, _, hr, _, _⟩ := own_row ho
  exact ⟨p, d, rfl, hr, hb⟩
end Go.Proofs.Yteccpmmedpkddaa
