/-
 A map's lookup and update at the operation, within a fence; the book-keeping of a range over a function that leaves cells of some types alone.
 slices.Clone at calls; the iterator over the names: what it yields.
 The iterator over the names: what it yields.
 Check: which histories may be, the code's.
 row: names without a put to be found.
 row: names with one put that ended.
-/
import Derived.OwnWalkIn
import Derived.Test.YtabkmdhkfbcldaaGreatJL11
import Derived.Test.YtabkmdhkfbcldaaGreatJL14
import Derived.Test.YtabkmdhkfbcldaaGreatJL2
import Derived.WalkMore
import Derived.LoopNIn
import Derived.LoopIn
import Derived.TacticsInMore
import Derived.Shelf.Abstract
import Derived.Deep.DeepCutAuto
import Derived.IntWalk
namespace Go.Proofs.YtabkmdhkfbcldaaGreat
open Go.RowKit
section
variable {κ β : Type} [DecidableEq κ] {P : Program} {k : TypeId} {mk : κ → Value} {mv : β → Value}
theorem wpListIn_maplook {F : Fence} {fn : Nat} {w : World} {ops : Array Oper} {rest : List Oper} {o : Oper} {a : Act} {Q : Exit → Act → World → Prop} {t el : TypeId}
  (K : KeyOk P k mk) (ht : P.underlying t = some (.map k el)) (hg : o.guard = none) (mo xo : Operand) (c : Bool) (hop : o.op = Op.lookup t mo xo c)
  (z : Value) (hz : (zeroValue el).run P w = .ok z w) (b : Nat) (m : List (κ × β)) (hm : a.eval mo = .map (some b)) (h : MapIs mk mv w b m) (x : κ) (hx : a.eval xo = mk x)
  (hK : wpListIn F fn P ops Q rest (a.put o.dst (if c then .tuple #[((alook m x).map mv).getD z, .bool (alook m x).isSome] else ((alook m x).map mv).getD z)) w) : wpListIn F fn P ops Q (o :: rest) a w := by
 refine wpListIn_plain hg fun K' hK' => ?_
 unfold Oper.wpIn
 refine ⟨?_, ?_⟩
 ·simp [Oper.about, hop]
 ·rw [Oper.semAt_plain F _ _ (by rw [hop]; intro c hc'; cases hc')]
  simp [execOp, hop, hm, hx, h.run_lookup K ht hz x c, Result.andThen]
  exact hK' _ _ hK
theorem wpListIn_mapset {F : Fence} {fn : Nat} {w : World} {ops : Array Oper} {rest : List Oper} {o : Oper} {a : Act} {Q : Exit → Act → World → Prop} {t el : TypeId}
  (K : KeyOk P k mk) (ht : P.underlying t = some (.map k el)) (hg : o.guard = none) (mo xo vo : Operand) (hop : o.op = Op.mapUpdate t mo xo vo ∨ o.op = Op.insert t mo xo vo)
  (b : Nat) (m : List (κ × β)) (hm : a.eval mo = .map (some b)) (h : MapIs mk mv w b m) (x : κ) (hx : a.eval xo = mk x) (u : β) (hu : a.eval vo = mv u)
  (hK : ∀ w', MapIs mk mv w' b (aset m x u) → w.grownBy w' (some b) → wpListIn F fn P ops Q rest (a.put o.dst undef) w') : wpListIn F fn P ops Q (o :: rest) a w := by
 refine wpListIn_plain hg fun K' hK' => ?_
 obtain ⟨w', hrun, r1, r2⟩ := h.run_update K ht x u
 unfold Oper.wpIn
 rcases hop with hop | hop
 ·refine ⟨?_, ?_⟩
  ·simp [Oper.about, hop]
  ·rw [Oper.semAt_plain F _ _ (by rw [hop]; intro c hc'; cases hc')]
   simp [execOp, hop, hm, hx, hu, hrun, Result.andThen]
   exact hK' _ _ (hK w' r1 r2)
 ·refine ⟨?_, ?_⟩
  ·simp [Oper.about, hop]
  ·rw [Oper.semAt_plain F _ _ (by rw [hop]; intro c hc'; cases hc')]
   simp [execOp, hop, hm, hx, hu, hrun, Result.andThen]
   exact hK' _ _ (hK w' r1 r2)
end
def KpT (n₀ : Nat) (S : TypeId → Bool) (W W' : World) : Prop := Below n₀ W W' ∧ W.heap.size ≤ W'.heap.size ∧ ∀ (k : Nat) (cs : Array Value) (T : TypeId) (fz : Nat × Nat), S T = true → W.heap[k]? = some (.cells cs T fz) → W'.heap[k]? = some (.cells cs T fz)
theorem KpT.trans {n₀ : Nat} {S : TypeId → Bool} {A B C : World} (h : KpT n₀ S A B) (k : KpT n₀ S B C) : KpT n₀ S A C := ⟨h.1.trans k.1, Nat.le_trans h.2.1 k.2.1, fun i cs T fz hs hi => k.2.2 i cs T fz hs (h.2.2 i cs T fz hs hi)⟩
theorem KpT.putObj {n₀ : Nat} {S : TypeId → Bool} {w : World} (hn : n₀ ≤ w.heap.size) (W : World) (l : Nat) (o o' : Obj) (hl : w.heap.size ≤ l) (h : W.heap[l]? = some o) (hc : o.isCells = false) (hw : o.isWalk = false) : KpT n₀ S W (W.putObj l o') :=
 ⟨belowK_b hn W l o o' hl h hc hw, by simp, fun k cs T fz _ hk => (World.putObj_heap_other (fun e => by subst e; rw [hk] at h; cases h; simp [Obj.isCells] at hc)).trans hk⟩
theorem KpT.alloc {n₀ : Nat} {S : TypeId → Bool} (W : World) (hn : n₀ ≤ W.heap.size) (o : Obj) : KpT n₀ S W (W.alloc o) :=
 ⟨(Below.refl _ _).alloc hn _, by simp, fun k _ _ _ _ hk => (Below.heap_alloc _ _ _ (Array.getElem?_eq_some_iff.1 hk).1).trans hk⟩
theorem KpT.grown {n₀ : Nat} {S : TypeId → Bool} {W W' : World} {row : Option Nat} (hg : W.grownBy W' row) (hn : n₀ ≤ W.heap.size) (hr : ∀ k, row = some k → n₀ ≤ k ∧ ∀ cs T fz, S T = true → W.heap[k]? ≠ some (.cells cs T fz)) : KpT n₀ S W W' :=
 ⟨(Below.refl _ _).grown hg hn (fun k e => (hr k e).1), hg.size, fun k cs T fz hT hk => (hg.block k (Array.getElem?_eq_some_iff.1 hk).1 (fun e => (hr k e.symm).2 cs T fz hT hk)).trans hk⟩
end Go.Proofs.YtabkmdhkfbcldaaGreat
namespace Go.Proofs.YtabkmdhkfbcldaaGreat
open Go.RowKit
attribute [local go_sem] Oper.semAt_some
theorem wide_fn (f : FuncId) : Fence.wide.fn f = True := rfl
theorem wide_depth : Fence.wide.depth = none := rfl
attribute [local go_sem] wide_fn wide_depth
abbrev OwnC (W : World) (base : Nat) (v : Value) (l : List Cl) : Prop := W.ownsRow base 35 8 v l.length (l.flatMap Cl.cellsLn)
theorem calls_ones (l : List Cl) : ∀ u ∈ l.flatMap Cl.cellsLn, u.oneCell' = true := fun u hu => by
 obtain ⟨c, _, h⟩ := List.mem_flatMap.1 hu
 exact cl_ones c u h
def CloneTell (l : List Cl) (w : World) (e : Ending) (w' : World) : Prop := ∃ v, e = .returned v ∧ OwnC w' w.heap.size v l ∧ Below w.heap.size w w'
set_option maxHeartbeats 1000000 in
theorem clone_any (p : Option Addr) (c : Nat) (l : List Cl) (w : World) (hl : l.length ≤ 1000000) (hp : p = none → c = 0) (hrow : Row w p (l.flatMap Cl.cellsLn)) :
  Calls Tryz.prog 9 #[.slice p l.length c] w (CloneTell l w) := by
 have hcl := flat_len Cl.cellsLn 8 (fun _ => rfl) l
 cases p with
 | none =>
  have hc := hp rfl
  subst hc
  have h0 : l = [] := by
   apply Classical.byContradiction
   intro hne
   have := List.length_pos_iff.2 hne
   obtain ⟨b, o, e, _⟩ := hrow.at (by omega)
   cases e
  subst h0
  have hnil := fun (w : World) => Lib.run_eql_slice_nil (P := Tryz.prog) w 32 35 none 0 0 0 0 Tryz.underlying32
  go_enter Tryz.func9, Tryz.ntmps9
  go_wp2
  go_ret
  exact ⟨_, rfl, World.ownsRow_nil _ _ _ _, Below.refl _ _⟩
 | some a =>
  have hnil := fun (w : World) (n c : Nat) => Lib.run_eql_slice_nil (P := Tryz.prog) w 32 35 (some a) n c 0 0 Tryz.underlying32
  have HCL := hid hcl
  clear hcl
  go_enter Tryz.func9, Tryz.ntmps9
  go_wp2_with ((with_reducible show wpList _ _ _ (⟨some 7, _, _, _, _, _⟩ :: _) _ _); go_loud (refine wpList_app ECall rfl _ _ rfl w.heap.size _ 0 [] rfl (own_new w [] 35 w.heap.size 0 8 (Nat.le_refl _) rfl (by decide)) _ _ _ (l.flatMap Cl.cellsLn) rfl (by rw [HCL.out]; omega) hp (hrow.alloc _) (calls_ones l) (by unfold maxLen; omega) (by omega) (by simp) ?_); intro v2 w2 ho2 hg2 hs2; rw [Nat.zero_add, List.nil_append] at ho2)
  have hg2 : (w.alloc (.cells #[] 35)).grownBy w2 (some w.heap.size) := hg2
  go_ret
  exact ⟨v2, rfl, ho2, ((Below.refl _ _).alloc (Nat.le_refl _) _).grown hg2 (by simp) (by rintro k e; cases e; exact Nat.le_refl _)⟩
def KeysTell (l : List Cl) (w : World) (e : Ending) (w' : World) : Prop :=
 ∃ v, e = .returned (.func (.func 49) #[] #[.pointer (some ⟨w.heap.size, 0, none⟩)]) ∧ w'.heap[w.heap.size]? = some (.cells #[v] 32 (0, 0)) ∧ OwnC w' (w.heap.size + 1) v l ∧ Below w.heap.size w w'
set_option maxHeartbeats 1000000 in
theorem keys_anyLn (p : Option Addr) (c : Nat) (l : List Cl) (w : World) (hl : l.length ≤ 1000000) (hp : p = none → c = 0) (hrow : Row w p (l.flatMap Cl.cellsLn)) :
  Calls Tryz.prog 31 #[.slice p l.length c] w (KeysTell l w) := by
 have HC := hid (clone_any p c l (w.alloc (.cells #[.slice p l.length c] 32)) hl hp (hrow.alloc _))
 unfold CloneTell at HC
 go_enter Tryz.func31, Tryz.ntmps31
 go_wp2_with (go_at_call 9; (with_reducible refine HC.out.mono ?_); rintro e w1 ⟨v, rfl, ho, hb⟩; rw [World.size_alloc] at ho hb; obtain ⟨q, d, rfl, -⟩ := own_shape ho; have HO := hid ho; have HB := hid hb; have hbx := (hb.block w.heap.size (by omega)).trans (heap_alloc_new w _); have HBX := hid hbx; have c0 := cell_of_row _ _ 0 _ _ _ hbx; have f0 : w1.frozen? ⟨w.heap.size, 0, none⟩ = false := frozen_of_row _ _ _ _ _ hbx; simp only [List.getElem?_toArray, List.getElem?_cons_zero] at c0; clear ho hb hbx)
 go_ret
 refine ⟨_, rfl, heap_setCell_same _ _ 0 _ _ _ HBX.out, own_setO HO.out _ _ (fun g e => by have := own_ge HO.out g e; simp; omega), ?_⟩
 exact (((Below.refl _ _).alloc (Nat.le_refl _) _).trans (HB.out.mono (by omega))).setCell (by simp) _
end Go.Proofs.YtabkmdhkfbcldaaGreat
namespace Go.Proofs.YtabkmdhkfbcldaaGreat
open Go.RowKit
attribute [local go_sem] Oper.semAt_some
attribute [local go_sem] wide_fn wide_depth
def SeenK (m : List (ByteArray × Bool)) (pre : List ByteArray) : Prop := ∀ x, (x ∈ pre ∧ alook m x = some true) ∨ (x ∉ pre ∧ alook m x = none)
theorem seenK0 : SeenK [] [] := fun x => .inr ⟨by simp, rfl⟩
theorem seenK_snoc {m : List (ByteArray × Bool)} {pre : List ByteArray} (h : SeenK m pre) (x : ByteArray) : SeenK (aset m x true) (pre ++ [x]) := fun y => by
 rw [alook_aset]
 by_cases e : y = x
 ·subst e; exact .inl ⟨by simp, by simp⟩
 ·rw [if_neg e]
  rcases h y with ⟨h1, h2⟩ | ⟨h1, h2⟩
  ·exact .inl ⟨List.mem_append_left _ h1, h2⟩
  ·exact .inr ⟨by simp [h1, e], h2⟩
theorem keys_more (l : List Cl) : ∀ acc : List ByteArray, ∃ suf, acc ++ suf = l.foldl keyStep acc := by
 induction l with
 | nil => exact fun acc => ⟨[], by simp⟩
 | cons c l ih =>
  intro acc
  obtain ⟨suf, h⟩ := ih (keyStep acc c)
  rw [List.foldl_cons, ← h]
  unfold keyStep
  split
  ·exact ⟨suf, rfl⟩
  ·exact ⟨c.key :: suf, by simp⟩
theorem keysF_pre (l : List Cl) (k : Nat) : ∃ suf, keysF (l.take k) ++ suf = keysF l := by
 obtain ⟨suf, h⟩ := keys_more (l.drop k) (keysF (l.take k))
 refine ⟨suf, h.trans ?_⟩
 unfold keysF
 rw [← List.foldl_append, List.take_append_drop]
theorem keys_in {l : List Cl} {k : Nat} (hk : k < l.length) (h : (cAt l k).key ∈ keysF (l.take k)) : keysF (l.take (k + 1)) = keysF (l.take k) := by
 rw [keysF_take k hk]; unfold keyStep; rw [if_pos h]
theorem keys_out {l : List Cl} {k : Nat} (hk : k < l.length) (h : (cAt l k).key ∉ keysF (l.take k)) : keysF (l.take (k + 1)) = keysF (l.take k) ++ [(cAt l k).key] := by
 rw [keysF_take k hk]; unfold keyStep; rw [if_neg h]
def encKLn (x : ByteArray) : Array Value := #[.string x]
theorem own_kpt {n₀ : Nat} {S : TypeId → Bool} {W W' : World} {base : Nat} {e : TypeId} {size : Nat} {v : Value} {n : Nat} {xs : List Value} (h : W.ownsRow base e size v n xs) (hk : KpT n₀ S W W') (hS : S e = true) : W'.ownsRow base e size v n xs := by
 refine ⟨h.1, ?_⟩
 rcases h.2 with hn | ⟨g, cap, cur, hv, hge, hg, rest⟩
 ·exact .inl hn
 ·exact .inr ⟨g, cap, cur, hv, hge, hk.2.2 _ _ _ _ hS hg, rest⟩
theorem K9 : KeyOk Tryz.prog 9 Value.string := keyOk_string Tryz.underlying9
theorem zeroB (w : World) : (zeroValue 4).run Tryz.prog w = .ok (.bool false) w := by kernel_rfl
set_option maxRecDepth 20000 in
set_option maxHeartbeats 4000000 in
theorem keys1_seqLn (n : Nat) (hn : 1 ≤ n) (l : List Cl) (hl : l.length ≤ 1000000) (n₀ : Nat) (S : TypeId → Bool) (hS1 : S 32 = true) (hS2 : S 35 = true) (b : Nat) (v : Value) (w : World) (hbw : w.heap[b]? = some (.cells #[v] 32 (0, 0))) (base : Nat) (hown : OwnC w base v l) :
  SeqO Fence.wide n Tryz.prog 49 #[.pointer (some ⟨b, 0, none⟩)] encKLn (KpT n₀ S) (fun ys => ys = keysF l) (fun pre => ∃ suf, pre ++ suf = keysF l) (keysF l).length w := by
 intro f J Jx W hW hJ hJx hY h0
 have hblt : b < w.heap.size := (Array.getElem?_eq_some_iff.1 hbw).1
 have hbW := (hW.block b hblt).trans hbw
 have hoW : OwnC W base v l := own_below hown hW
 have hszW := hW.size
 obtain ⟨q, c, rfl, -⟩ := own_shape hown
 show CallsIn Fence.wide n Tryz.prog 49 #[.func (.yield f) #[] #[], .pointer (some ⟨b, 0, none⟩)] W _
 refine callsIn_of_wp Tryz.func49 rfl (show Fence.wide.fn _ from trivial) ?_ rfl
 simp only [Tryz.ntmps49, List.size_toArray, List.length_cons, List.length_nil, Nat.reduceAdd, Nat.reduceSub, Array.replicate_succ, Array.replicate_zero, List.push_toArray, List.append_toArray, List.nil_append, List.cons_append]
 have hmm := @run_makeMap Tryz.prog
 have hcb := cell_of_row W b 0 _ _ _ hbW
 simp only [List.getElem?_toArray, List.getElem?_cons_zero] at hcb
 have hblW : b < W.heap.size := by omega
 have HBW := hid hbW
 have HOW := hid hoW
 have HJ0 := hid (hJ.alloc (.map #[] 0) h0)
 have HM0 := hid (MapIs.made Value.string Value.bool W)
 have HB0 := hid ((Below.heap_alloc W (.map #[] 0) b hblW).trans hbW)
 clear hbW hoW hbw hown h0 hW
 gi_wp2
 clear hmm hcb
 gi_loopw [9] (fun i wr => ∃ (k : Nat) (m : List (ByteArray × Bool)), k ≤ l.length ∧ i = .int .i64 k ∧ J (keysF (l.take k)) wr ∧ MapIs Value.string Value.bool wr W.heap.size m ∧ SeenK m (keysF (l.take k)) ∧ OwnC wr base (.slice q l.length c) l ∧ W.heap.size ≤ wr.heap.size) (fun i _ => l.length - (intOf i).toNat)
 case atStart => exact ⟨0, [], Nat.zero_le _, rfl, by simpa [keysF] using HJ0.out, HM0.out, by simpa [keysF] using seenK0, HOW.out.alloc _, by simp⟩
 case round =>
  obtain ⟨k, m, hk, rfl, hJs, hm, hsn, ho, hsz⟩ := hrel
  have HJS := hid hJs
  have HM := hid hm
  have HSN := hid hsn
  have HO := hid ho
  clear hJs hm hsn ho HJ0 HM0 HB0
  by_cases hlt : k < l.length
  ·have hr := own_slice_row HO.out
   obtain ⟨rb, ro, rfl, hrb, -⟩ := hr.at (by have := flat_len Cl.cellsLn 8 (fun _ => rfl) l; omega)
   obtain ⟨d0, d1, d2, d3, d4, d5, d6, d7⟩ := cl_cat hr k hlt
   obtain ⟨suf, hsuf⟩ := keysF_pre l (k + 1)
   have HSF := hid hsuf
   clear hr hsuf
   by_cases hin : (cAt l k).key ∈ keysF (l.take k)
   ·have HK := hid (keys_in hlt hin)
    have HSK : Hid (alook m (cAt l k).key = some true) := by
     rcases HSN.out (cAt l k).key with ⟨_, h2⟩ | ⟨h1, _⟩
     ·exact h2
     ·exact absurd hin h1
    clear hin HSF
    gi_wp2_with ((with_reducible show wpListIn _ _ _ _ _ (⟨some 16, _, _, _, _, _⟩ :: _) _ _); refine wpListIn_maplook K9 Tryz.underlying55 rfl (.tmp 13) (.tmp 15) false rfl (.bool false) (zeroB _) W.heap.size m rfl (HM.out.alloc _) (cAt l k).key rfl ?_; rw [HSK.out])
    exact ⟨⟨k + 1, m, by omega, by go_num, by rw [HK.out]; exact hJ.alloc _ HJS.out, HM.out.alloc _, by rw [HK.out]; exact HSN.out, HO.out.alloc _, by simp; omega⟩, by simp [intOf]; omega⟩
   ·have HK := hid (keys_out hlt hin)
    have hsk : alook m (cAt l k).key = none := by
     rcases HSN.out (cAt l k).key with ⟨h1, _⟩ | ⟨_, h2⟩
     ·exact absurd h1 hin
     ·exact h2
    have HSK := hid hsk
    have HSF2 : Hid (keysF (l.take k) ++ [(cAt l k).key] ++ suf = keysF l) := by rw [← HK.out]; exact HSF.out
    have HLN : Hid ((keysF (l.take k)).length < (keysF l).length) := by rw [← HSF2.out]; simp [Hid]
    clear hin hsk HSF
    gi_wp2_with (first
     | ((with_reducible show wpListIn _ _ _ _ _ (⟨some 16, _, _, _, _, _⟩ :: _) _ _); refine wpListIn_maplook K9 Tryz.underlying55 rfl (.tmp 13) (.tmp 15) false rfl (.bool false) (zeroB _) W.heap.size m rfl (HM.out.alloc _) (cAt l k).key rfl ?_; rw [HSK.out])
     | ((with_reducible show wpListIn _ _ _ _ _ (⟨none, .mapUpdate _ _ _ _, _, _, _, _⟩ :: _) _ _); refine wpListIn_mapset K9 Tryz.underlying55 rfl (.tmp 18) (.tmp 20) (.const (.bool true)) (.inl rfl) W.heap.size m rfl (HM.out.alloc _) (cAt l k).key rfl true rfl ?_; intro w2 hm2 hg2; have HM2 := hid hm2; have HG2 := hid hg2; obtain ⟨es, clock, hmb, -⟩ := HM.out.alloc (.cells #[.int .i64 (cAt l k).w, .int .i64 (cAt l k).kind, .string (cAt l k).key, .int .i64 (cAt l k).value, .int .i64 (cAt l k).fr, .int .i64 (cAt l k).to, .int .i64 (cAt l k).ans, .int .i64 (cAt l k).err] 35); have HO2 := hid (own_keptO (HO.out.alloc _) hg2 hmb rfl); have hJ2 := hJ _ _ _ _ (hJ.alloc _ HJS.out) hg2 (fun r e => by cases e; exact ⟨Nat.le_refl _, _, hmb, rfl⟩); obtain ⟨fn, tmps, assign, body, hy, hR⟩ := hY _ (cAt l k).key w2 hJ2 HLN.out; have e2 : w2.cell? ⟨wr.heap.size, 2, none⟩ = some (.string (cAt l k).key) := cell_of_row _ _ 2 _ _ _ ((hg2.block wr.heap.size (by simp) (by have := HM.out.lt; simp; omega)).trans (heap_alloc_new wr _)); have hz2 := hg2.size; simp only [World.size_alloc] at hz2; simp only [encKLn] at hy; clear hm2 hg2 hmb hJ2))
    refine hR.mono ?_
    rintro e W3 ⟨(⟨rfl, hJ3, hk3⟩ | ⟨rfl, hJx3⟩), hkf⟩
    ·obtain ⟨es3, clock3, hmb3, hf3⟩ := HM2.out
     have hm3 : MapIs Value.string Value.bool W3 W.heap.size (aset m (cAt l k).key true) := ⟨es3, clock3, hkf.same _ _ (Nat.le_refl _) hmb3 rfl, hf3⟩
     have HM3 := hid hm3
     have HK3 := hid hk3
     have HJ3 := hid hJ3
     have hz3 := hkf.size
     clear hm3 hmb3 hf3 hk3 hJ3 hkf hy hR
     gi_wp2
     exact ⟨⟨k + 1, _, by omega, by go_num, by rw [HK.out]; exact HJ3.out, HM3.out, by rw [HK.out]; exact seenK_snoc HSN.out _, own_kpt HO2.out HK3.out hS2, by omega⟩, by simp [intOf]; omega⟩
    ·clear hy hR
     gi_wp2
     refine bodyPost_ret (results_none rfl _ _ _) rfl ?_
     exact ⟨⟨_, rfl⟩, .inr ⟨_, ⟨suf, HSF2.out⟩, hJx3⟩⟩
  ·have hke : k = l.length := by omega
   subst hke
   have hjj := HJS.out
   rw [List.take_of_length_le (Nat.le_refl _)] at hjj
   have HJJ := hid hjj
   clear hjj
   gi_wp2
   go_end0
   exact ⟨⟨_, rfl⟩, .inl ⟨_, rfl, HJJ.out⟩⟩
end Go.Proofs.YtabkmdhkfbcldaaGreat
namespace Go.Proofs.YtabkmdhkfbcldaaGreat
open Go.RowKit
def ChkTell (l : List Cl) (w : World) (e : Ending) (w' : World) : Prop := e = .returned (.int .i64 (chkL l)) ∧ Below w.heap.size w w'
def ChkRel (l : List Cl) (w : World) (i : Value) (wr : World) : Prop := ∃ (k : Nat) (m : WM), k ≤ l.length ∧ i = .int .i64 k ∧ CkI l w k m wr
structure CkJ (l : List Cl) (w : World) (j : Nat) (m : WM) (wr : World) : Prop where
 ws : wsTo l j
 map : MapIs (Value.int .i64) id wr w.heap.size m
 inv : WInv wr (w.heap.size + 1) m l
 below : Below w.heap.size w wr
def ChkRel2 (l : List Cl) (w : World) (m : WM) (i : Value) (wr : World) : Prop := ∃ j : Nat, j ≤ 64 ∧ i = .int .i64 j ∧ CkJ l w j m wr
theorem CkJ.sort {l ys : List Cl} {w wr w' : World} {j : Nat} {m : WM} {k : Int} (h : CkJ l w j m wr) (hg : wr.grownBy w' (wmV m k).ownBlock) (hp : ys.Perm (ownW l k)) (ho : w'.ownsRow (w.heap.size + 1) 35 8 (wmV m k) ys.length (ys.flatMap Cl.cellsLn)) : CkJ l w j m w' :=
 ⟨h.ws, h.map.kept hg (h.inv.ne_map (by omega) _), h.inv.sort hg hp ho, h.below.grown hg h.below.size (fun g e => by
  obtain ⟨zs, _, hz⟩ := h.inv.own k
  have := own_ge hz g e; omega)⟩
theorem CkJ.step {l : List Cl} {w wr w' : World} {j : Nat} {m : WM} (h : CkJ l w j m wr) (h1 : (ownW l j).Pairwise either) (hb : Below wr.heap.size wr w') : CkJ l w (j + 1) m w' :=
 ⟨wsTo_succ h.ws h1, h.map.below hb h.map.lt, h.inv.below hb, h.below.trans (hb.mono h.below.size)⟩
theorem CkI.step {l : List Cl} {w wr w5 w6 w7 : World} {k : Nat} {m : WM} {v' : Value} {ys : List Cl} (h : CkI l w k m wr) (hk : k < l.length) (h1 : oneB (cAt l k) = true) (hb : Below wr.heap.size wr w5) (hg : w5.grownBy w6 (wmV m (cAt l k).w).ownBlock) (hs : Stayed w5 (wmV m (cAt l k).w) v')
  (hp : ys.Perm (ownW (l.take k) (cAt l k).w)) (ho : w6.ownsRow (w.heap.size + 1) 35 8 v' (ys.length + 1) (ys.flatMap Cl.cellsLn ++ (cAt l k).cellsLn)) (hm : MapIs (Value.int .i64) id w7 w.heap.size (aset m (cAt l k).w v')) (hg7 : w6.grownBy w7 (some w.heap.size)) : CkI l w (k + 1) (aset m (cAt l k).w v') w7 := by
 have hi5 := h.inv.below hb
 have hm5 := h.map.below hb h.map.lt
 have hm6 := hm5.kept hg (hi5.ne_map (by omega) _)
 obtain ⟨es, clock, hmb, _⟩ := hm6
 have hi6 := hi5.app hg hs hp ho
 have hb5 : Below w.heap.size w w5 := h.below.trans (hb.mono h.below.size)
 have hb6 : Below w.heap.size w w6 := hb5.grown hg hb5.size (fun g e => by
  obtain ⟨zs, _, hz⟩ := hi5.own (cAt l k).w
  have := own_ge hz g e; omega)
 exact ⟨onesTo_succ h.ones h1, hm, by rw [take_snoc_c k hk]; exact hi6.keptO hg7 hmb rfl, hb6.grown hg7 hb6.size (fun g e => by cases e; omega)⟩
set_option maxRecDepth 20000 in
set_option maxHeartbeats 4000000 in
theorem check_anyLn (l : List Cl) (p : Option Addr) (c : Nat) (w : World) (hl : l.length ≤ 1000000) (hc : l.length ≤ c) (hrow : Row w p (l.flatMap Cl.cellsLn)) :
  Calls Tryz.prog 30 #[.slice p l.length c] w (ChkTell l w) := by
 by_cases hlong : 4096 < l.length
 ·have HV := hid (chk_long hlong)
  have hlo : (4096 : Int) < (l.length : Int) := by omega
  go_enter Tryz.func30, Tryz.ntmps30
  go_wp2
  go_ret
  exact ⟨ret_int HV.out.symm, Below.refl _ _⟩
 ·have hlo : ¬ (4096 : Int) < (l.length : Int) := by omega
  have HG := hid (chk_is (l := l) (by omega))
  have HBD := hid (chk_bad (l := l) (by omega))
  have HR := hid hrow
  have H0 := hid (CkI.start l w)
  clear hrow hlong
  have hmm := @run_makeMap Tryz.prog
  go_enter Tryz.func30, Tryz.ntmps30
  go_wp2
  clear hmm
  go_loopw [15] (ChkRel l w) (fun i _ => l.length - (intOf i).toNat)
  case atStart => exact ⟨0, [], Nat.zero_le _, rfl, H0.out⟩
  case round =>
   obtain ⟨k, m, hk, rfl, hck⟩ := hrel
   have HC := hid hck
   clear hck
   by_cases hlt : k < l.length
   ·obtain ⟨b, o, rfl, hbw, -⟩ := (HR.out.below HC.out.below).at (by have := flat_len Cl.cellsLn 8 (fun _ => rfl) l; omega)
    obtain ⟨d0, d1, d2, d3, d4, d5, d6, d7⟩ := cl_cat (HR.out.below HC.out.below) k hlt
    have HO := hid (fun w1 => one_anyLn (cAt l k) w1)
    have H1 := hid (fun h => one_badLn (l := l) hlt h)
    unfold Cl.cellsLn at HO
    cases h1 : oneB (cAt l k) with
    | false =>
     rw [h1] at HO
     have HV : Hid (chkL l = 260) := HBD.out (H1.out h1)
     clear h1
     go_wp2_with (go_at_call 44; (with_reducible refine (HO.out _).mono ?_); rintro e w5 ⟨rfl, hb5⟩)
     go_ret
     exact ⟨ret_int HV.out.symm, below_al HC.out.below hb5⟩
    | true =>
     rw [h1] at HO
     have H1 := hid h1
     clear h1
     go_wp2_with (go_at_call 44; (with_reducible refine (HO.out _).mono ?_); rintro e w5 ⟨rfl, hb5⟩)
     have hbw5 := (((Below.refl wr.heap.size wr).alloc (Nat.le_refl _) (.cells #[.int .i64 (cAt l k).w, .int .i64 (cAt l k).kind, .string (cAt l k).key, .int .i64 (cAt l k).value, .int .i64 (cAt l k).fr, .int .i64 (cAt l k).to, .int .i64 (cAt l k).ans, .int .i64 (cAt l k).err] 35)).trans (hb5.mono (by simp)))
     have HBW := hid hbw5
     have hz5 := hb5.size
     simp only [World.size_alloc] at hz5
     have hzw := HC.out.below.size
     have HBL := hid ((hb5.block wr.heap.size (by simp)).trans (heap_alloc_new wr _))
     have HBA := hid (fun o : Obj => (Below.heap_alloc w5 o wr.heap.size (by omega)).trans HBL.out)
     have HM5 := hid (HC.out.map.below hbw5 HC.out.map.lt)
     have hi5 := HC.out.inv.below hbw5
     have HNM := hid (hi5.ne_map (b := w.heap.size) (by omega))
     have HNW := hid (HC.out.inv.ne_new (b := wr.heap.size) (Nat.le_refl _))
     obtain ⟨ys, hys, how⟩ := hi5.own (cAt l k).w
     have hyl : ys.length ≤ l.length := by rw [hys.length_eq]; exact Nat.le_trans (List.length_filter_le _ _) (by simp; omega)
     have HP := hid hys
     have HOW := hid how
     clear hys how hi5 hb5 hbw5
     have g0 : ∀ w' : World, w'.heap[wr.heap.size]? = some (.cells #[.int .i64 (cAt l k).w, .int .i64 (cAt l k).kind, .string (cAt l k).key, .int .i64 (cAt l k).value, .int .i64 (cAt l k).fr, .int .i64 (cAt l k).to, .int .i64 (cAt l k).ans, .int .i64 (cAt l k).err] 35 (0, 0)) → w'.cell? ⟨wr.heap.size, 0, none⟩ = some (.int .i64 (cAt l k).w) := fun w' h => cell_of_row _ _ 0 _ _ _ h
     have g1 : ∀ w' : World, w'.heap[wr.heap.size]? = some (.cells #[.int .i64 (cAt l k).w, .int .i64 (cAt l k).kind, .string (cAt l k).key, .int .i64 (cAt l k).value, .int .i64 (cAt l k).fr, .int .i64 (cAt l k).to, .int .i64 (cAt l k).ans, .int .i64 (cAt l k).err] 35 (0, 0)) → w'.cell? ⟨wr.heap.size, 1, none⟩ = some (.int .i64 (cAt l k).kind) := fun w' h => cell_of_row _ _ 1 _ _ _ h
     have g2 : ∀ w' : World, w'.heap[wr.heap.size]? = some (.cells #[.int .i64 (cAt l k).w, .int .i64 (cAt l k).kind, .string (cAt l k).key, .int .i64 (cAt l k).value, .int .i64 (cAt l k).fr, .int .i64 (cAt l k).to, .int .i64 (cAt l k).ans, .int .i64 (cAt l k).err] 35 (0, 0)) → w'.cell? ⟨wr.heap.size, 2, none⟩ = some (.string (cAt l k).key) := fun w' h => cell_of_row _ _ 2 _ _ _ h
     have g3 : ∀ w' : World, w'.heap[wr.heap.size]? = some (.cells #[.int .i64 (cAt l k).w, .int .i64 (cAt l k).kind, .string (cAt l k).key, .int .i64 (cAt l k).value, .int .i64 (cAt l k).fr, .int .i64 (cAt l k).to, .int .i64 (cAt l k).ans, .int .i64 (cAt l k).err] 35 (0, 0)) → w'.cell? ⟨wr.heap.size, 3, none⟩ = some (.int .i64 (cAt l k).value) := fun w' h => cell_of_row _ _ 3 _ _ _ h
     have g4 : ∀ w' : World, w'.heap[wr.heap.size]? = some (.cells #[.int .i64 (cAt l k).w, .int .i64 (cAt l k).kind, .string (cAt l k).key, .int .i64 (cAt l k).value, .int .i64 (cAt l k).fr, .int .i64 (cAt l k).to, .int .i64 (cAt l k).ans, .int .i64 (cAt l k).err] 35 (0, 0)) → w'.cell? ⟨wr.heap.size, 4, none⟩ = some (.int .i64 (cAt l k).fr) := fun w' h => cell_of_row _ _ 4 _ _ _ h
     have g5 : ∀ w' : World, w'.heap[wr.heap.size]? = some (.cells #[.int .i64 (cAt l k).w, .int .i64 (cAt l k).kind, .string (cAt l k).key, .int .i64 (cAt l k).value, .int .i64 (cAt l k).fr, .int .i64 (cAt l k).to, .int .i64 (cAt l k).ans, .int .i64 (cAt l k).err] 35 (0, 0)) → w'.cell? ⟨wr.heap.size, 5, none⟩ = some (.int .i64 (cAt l k).to) := fun w' h => cell_of_row _ _ 5 _ _ _ h
     have g6 : ∀ w' : World, w'.heap[wr.heap.size]? = some (.cells #[.int .i64 (cAt l k).w, .int .i64 (cAt l k).kind, .string (cAt l k).key, .int .i64 (cAt l k).value, .int .i64 (cAt l k).fr, .int .i64 (cAt l k).to, .int .i64 (cAt l k).ans, .int .i64 (cAt l k).err] 35 (0, 0)) → w'.cell? ⟨wr.heap.size, 6, none⟩ = some (.int .i64 (cAt l k).ans) := fun w' h => cell_of_row _ _ 6 _ _ _ h
     have g7 : ∀ w' : World, w'.heap[wr.heap.size]? = some (.cells #[.int .i64 (cAt l k).w, .int .i64 (cAt l k).kind, .string (cAt l k).key, .int .i64 (cAt l k).value, .int .i64 (cAt l k).fr, .int .i64 (cAt l k).to, .int .i64 (cAt l k).ans, .int .i64 (cAt l k).err] 35 (0, 0)) → w'.cell? ⟨wr.heap.size, 7, none⟩ = some (.int .i64 (cAt l k).err) := fun w' h => cell_of_row _ _ 7 _ _ _ h
     clear d0 d1 d2 d3 d4 d5 d6 d7
     refine wp_region_held_drew (S := fun w' : World => w'.heap[wr.heap.size]? = some (.cells #[.int .i64 (cAt l k).w, .int .i64 (cAt l k).kind, .string (cAt l k).key, .int .i64 (cAt l k).value, .int .i64 (cAt l k).fr, .int .i64 (cAt l k).to, .int .i64 (cAt l k).ans, .int .i64 (cAt l k).err] 35 (0, 0))) (by kernel_rfl) HBL.out (fun hHeld => ?_)
     refine wpAnyH_take (i := 0) (oi := { dst := some 22, op := Op.move (Operand.tmp 3), type := 102, pos := "linear.go:42", after := #[], guard := none }) (v := ?ckv0) rfl (by kernel_rfl) (by kernel_rfl) (by kernel_rfl) (fun _ _ _ h => h) (Or.inl ⟨by rfl, ?ckh0⟩) (by assumption) ?ckr0
     case ckh0 => ((intro w hSw; (try dsimp only at hSw); go_simp); try with_reducible rfl)
     try simp only [Act.put, List.setIfInBounds_toArray, List.set_cons_zero, List.set_cons_succ]
     refine wpAnyH_take (i := 1) (oi := { dst := some 23, op := Op.fieldAddr 35 (Operand.tmp 5) 0, type := 0, pos := "linear.go:42", after := #[], guard := none }) (v := ?ckv1) rfl (by kernel_rfl) (by kernel_rfl) (by kernel_rfl) (fun _ _ _ h => h) (Or.inl ⟨by rfl, ?ckh1⟩) (by assumption) ?ckr1
     case ckh1 => ((intro w hSw; (try dsimp only at hSw); go_simp); try with_reducible rfl)
     try simp only [Act.put, List.setIfInBounds_toArray, List.set_cons_zero, List.set_cons_succ]
     refine wpAnyH_take (i := 2) (oi := { dst := some 24, op := Op.load 3 (Operand.tmp 23), type := 3, pos := "linear.go:42", after := #[{ on := 1, ground := Ground.data }], guard := none }) (v := ?ckv2) rfl (by kernel_rfl) (by kernel_rfl) (by kernel_rfl) (fun _ _ _ h => h) (Or.inl ⟨by rfl, ?ckh2⟩) (by assumption) ?ckr2
     case ckh2 => ((intro w hSw; (try dsimp only at hSw); go_simp); try with_reducible rfl)
     try simp only [Act.put, List.setIfInBounds_toArray, List.set_cons_zero, List.set_cons_succ]
     refine wpAnyH_take (i := 3) (oi := { dst := some 25, op := Op.move (Operand.tmp 3), type := 102, pos := "linear.go:42", after := #[], guard := none }) (v := ?ckv3) rfl (by kernel_rfl) (by kernel_rfl) (by kernel_rfl) (fun _ _ _ h => h) (Or.inl ⟨by rfl, ?ckh3⟩) (by assumption) ?ckr3
     case ckh3 => ((intro w hSw; (try dsimp only at hSw); go_simp); try with_reducible rfl)
     try simp only [Act.put, List.setIfInBounds_toArray, List.set_cons_zero, List.set_cons_succ]
     refine wpAnyH_take (i := 4) (oi := { dst := some 26, op := Op.fieldAddr 35 (Operand.tmp 5) 0, type := 0, pos := "linear.go:42", after := #[], guard := none }) (v := ?ckv4) rfl (by kernel_rfl) (by kernel_rfl) (by kernel_rfl) (fun _ _ _ h => h) (Or.inl ⟨by rfl, ?ckh4⟩) (by assumption) ?ckr4
     case ckh4 => ((intro w hSw; (try dsimp only at hSw); go_simp); try with_reducible rfl)
     try simp only [Act.put, List.setIfInBounds_toArray, List.set_cons_zero, List.set_cons_succ]
     refine wpAnyH_take (i := 5) (oi := { dst := some 27, op := Op.load 3 (Operand.tmp 26), type := 3, pos := "linear.go:42", after := #[{ on := 4, ground := Ground.data }], guard := none }) (v := ?ckv5) rfl (by kernel_rfl) (by kernel_rfl) (by kernel_rfl) (fun _ _ _ h => h) (Or.inl ⟨by rfl, ?ckh5⟩) (by assumption) ?ckr5
     case ckh5 => ((intro w hSw; (try dsimp only at hSw); go_simp); try with_reducible rfl)
     try simp only [Act.put, List.setIfInBounds_toArray, List.set_cons_zero, List.set_cons_succ]
     refine wpAnyH_take (i := 7) (oi := { dst := some 29, op := Op.load 35 (Operand.tmp 5), type := 35, pos := "linear.go:42", after := #[], guard := none }) (v := ?ckv7) rfl (by kernel_rfl) (by kernel_rfl) (by kernel_rfl) (fun _ _ _ h => h) (Or.inl ⟨by rfl, ?ckh7⟩) (by assumption) ?ckr7
     case ckh7 => ((intro w hSw; (try dsimp only at hSw); go_simp); try with_reducible rfl)
     try simp only [Act.put, List.setIfInBounds_toArray, List.set_cons_zero, List.set_cons_succ]
     refine wpAnyH_ready (rs := [6, 8]) (by kernel_rfl) (by simp) ?_
     refine AllReadyH.cons (o := { dst := some 28, op := Op.lookup 102 (Operand.tmp 25) (Operand.tmp 27) false, type := 32, pos := "linear.go:42", after := #[{ on := 3, ground := Ground.data }, { on := 5, ground := Ground.data }], guard := none }) rfl (fun K hK => ?_) ?_
     ·refine step_wm rfl (.tmp 25) (.tmp 27) rfl w.heap.size m rfl (by first | exact HM5.out | exact HM5.out.alloc _) (cAt l k).w rfl ?_; refine hK.out _ _ (by first | exact HBL.out | exact HBA.out _) (fun hHeld => ?_)
      clear hK K
      try simp only [Act.put, List.setIfInBounds_toArray, List.set_cons_zero, List.set_cons_succ]
      refine wpAnyH_ready (rs := [8]) (by kernel_rfl) (by simp) ?_
      refine AllReadyH.cons (o := { dst := some 30, op := Op.buildSlice 32 1 #[(0, Operand.tmp 29)], type := 32, pos := "linear.go:42", after := #[{ on := 7, ground := Ground.data }], guard := none }) rfl (fun K hK => ?_) AllReadyH.nil
      go_simp; refine hK.out _ _ (HBA.out _) (fun hHeld => ?_)
      clear hK K
      try simp only [Act.put, List.setIfInBounds_toArray, List.set_cons_zero, List.set_cons_succ]
      refine wpAnyH_ready (rs := [9]) (by kernel_rfl) (by simp) ?_
      refine AllReadyH.cons (o := { dst := some 31, op := Op.call { callee := Callee.builtin Builtin.append, args := #[Operand.tmp 28, Operand.tmp 30], argTypes := #[32, 32] }, type := 32, pos := "linear.go:42", after := #[{ on := 6, ground := Ground.data }, { on := 8, ground := Ground.data }], guard := none }) rfl (fun K hK => ?_) AllReadyH.nil
      (refine step_app ECall rfl (.tmp 28) (.tmp 30) rfl (w.heap.size + 1) (wmV m (cAt l k).w) ys.length (ys.flatMap Cl.cellsLn) rfl (HOW.out.alloc _) _ 1 1 (cAt l k).cellsLn rfl rfl (row_newAt _ _ _ _ (by simp)) (cl_ones _) (by unfold maxLen; omega) (by omega) (by simp; omega) ?_); intro v6 w6 ho6 hg6 hs6; have HO6 := hid ho6; have HG6 : Hid (World.grownBy _ w6 (wmV m (cAt l k).w).ownBlock) := hg6; have HT6 : Hid (Stayed _ (wmV m (cAt l k).w) v6) := hs6; have HB6 := hid ((hg6.block wr.heap.size (by simp; omega) (HNW.out _)).trans (HBA.out _)); have HM6 := hid ((mapDrew (HM5.out.alloc _)).kept hg6 (HNM.out _)); clear ho6 hg6 hs6; refine hK.out _ _ HB6.out (fun hHeld => ?_)
      clear hK K
      try simp only [Act.put, List.setIfInBounds_toArray, List.set_cons_zero, List.set_cons_succ]
      refine wpAnyH_ready (rs := [10]) (by kernel_rfl) (by simp) ?_
      refine AllReadyH.cons (o := { dst := none, op := Op.mapUpdate 102 (Operand.tmp 22) (Operand.tmp 24) (Operand.tmp 31), type := 0, pos := "linear.go:42", after := #[{ on := 0, ground := Ground.data }, { on := 2, ground := Ground.data }, { on := 9, ground := Ground.data }, { on := 9, ground := Ground.chain }, { on := 0, ground := Ground.phase }, { on := 1, ground := Ground.phase }, { on := 2, ground := Ground.phase }, { on := 3, ground := Ground.phase }, { on := 4, ground := Ground.phase }, { on := 5, ground := Ground.phase }, { on := 6, ground := Ground.phase }, { on := 7, ground := Ground.phase }, { on := 8, ground := Ground.phase }, { on := 9, ground := Ground.phase }], guard := none }) rfl (fun K hK => ?_) AllReadyH.nil
      (refine step_mapset K3 Tryz.underlying102 rfl (.tmp 22) (.tmp 24) (.tmp 31) (.inl rfl) w.heap.size m rfl HM6.out (cAt l k).w rfl v6 rfl ?_); intro w7 hm7 hg7; have HM7 := hid hm7; have HG7 := hid hg7; have HB7 := hid ((hg7.block wr.heap.size (Array.getElem?_eq_some_iff.1 HB6.out).1 (by have := HC.out.map.lt; simp; omega)).trans HB6.out); clear hm7 hg7; refine hK.out _ _ HB7.out (fun hHeld => ?_)
      clear hK K
      try simp only [Act.put, List.setIfInBounds_toArray, List.set_cons_zero, List.set_cons_succ]
      refine wpAnyH_done (by kernel_rfl) ?_ _
      go_wp2
      exact ⟨⟨k + 1, _, by omega, by go_num, HC.out.step hlt H1.out (HBW.out.alloc HBW.out.size _).drew HG6.out HT6.out HP.out HO6.out HM7.out HG7.out⟩, by simp [intOf]; omega⟩
     refine AllReadyH.cons (o := { dst := some 30, op := Op.buildSlice 32 1 #[(0, Operand.tmp 29)], type := 32, pos := "linear.go:42", after := #[{ on := 7, ground := Ground.data }], guard := none }) rfl (fun K hK => ?_) AllReadyH.nil
     go_simp; refine hK.out _ _ (HBA.out _) (fun hHeld => ?_)
     clear hK K
     try simp only [Act.put, List.setIfInBounds_toArray, List.set_cons_zero, List.set_cons_succ]
     refine wpAnyH_ready (rs := [6]) (by kernel_rfl) (by simp) ?_
     refine AllReadyH.cons (o := { dst := some 28, op := Op.lookup 102 (Operand.tmp 25) (Operand.tmp 27) false, type := 32, pos := "linear.go:42", after := #[{ on := 3, ground := Ground.data }, { on := 5, ground := Ground.data }], guard := none }) rfl (fun K hK => ?_) AllReadyH.nil
     refine step_wm rfl (.tmp 25) (.tmp 27) rfl w.heap.size m rfl (by first | exact HM5.out | exact HM5.out.alloc _) (cAt l k).w rfl ?_; refine hK.out _ _ (by first | exact HBL.out | exact HBA.out _) (fun hHeld => ?_)
     clear hK K
     try simp only [Act.put, List.setIfInBounds_toArray, List.set_cons_zero, List.set_cons_succ]
     refine wpAnyH_ready (rs := [9]) (by kernel_rfl) (by simp) ?_
     refine AllReadyH.cons (o := { dst := some 31, op := Op.call { callee := Callee.builtin Builtin.append, args := #[Operand.tmp 28, Operand.tmp 30], argTypes := #[32, 32] }, type := 32, pos := "linear.go:42", after := #[{ on := 6, ground := Ground.data }, { on := 8, ground := Ground.data }], guard := none }) rfl (fun K hK => ?_) AllReadyH.nil
     (refine step_app ECall rfl (.tmp 28) (.tmp 30) rfl (w.heap.size + 1) (wmV m (cAt l k).w) ys.length (ys.flatMap Cl.cellsLn) rfl (HOW.out.alloc _) _ 1 1 (cAt l k).cellsLn rfl rfl (row_newAt _ _ _ _ (by simp)) (cl_ones _) (by unfold maxLen; omega) (by omega) (by simp; omega) ?_); intro v6 w6 ho6 hg6 hs6; have HO6 := hid ho6; have HG6 : Hid (World.grownBy _ w6 (wmV m (cAt l k).w).ownBlock) := hg6; have HT6 : Hid (Stayed _ (wmV m (cAt l k).w) v6) := hs6; have HB6 := hid ((hg6.block wr.heap.size (by simp; omega) (HNW.out _)).trans (HBA.out _)); have HM6 := hid ((mapDrew (HM5.out.alloc _)).kept hg6 (HNM.out _)); clear ho6 hg6 hs6; refine hK.out _ _ HB6.out (fun hHeld => ?_)
     clear hK K
     try simp only [Act.put, List.setIfInBounds_toArray, List.set_cons_zero, List.set_cons_succ]
     refine wpAnyH_ready (rs := [10]) (by kernel_rfl) (by simp) ?_
     refine AllReadyH.cons (o := { dst := none, op := Op.mapUpdate 102 (Operand.tmp 22) (Operand.tmp 24) (Operand.tmp 31), type := 0, pos := "linear.go:42", after := #[{ on := 0, ground := Ground.data }, { on := 2, ground := Ground.data }, { on := 9, ground := Ground.data }, { on := 9, ground := Ground.chain }, { on := 0, ground := Ground.phase }, { on := 1, ground := Ground.phase }, { on := 2, ground := Ground.phase }, { on := 3, ground := Ground.phase }, { on := 4, ground := Ground.phase }, { on := 5, ground := Ground.phase }, { on := 6, ground := Ground.phase }, { on := 7, ground := Ground.phase }, { on := 8, ground := Ground.phase }, { on := 9, ground := Ground.phase }], guard := none }) rfl (fun K hK => ?_) AllReadyH.nil
     (refine step_mapset K3 Tryz.underlying102 rfl (.tmp 22) (.tmp 24) (.tmp 31) (.inl rfl) w.heap.size m rfl HM6.out (cAt l k).w rfl v6 rfl ?_); intro w7 hm7 hg7; have HM7 := hid hm7; have HG7 := hid hg7; have HB7 := hid ((hg7.block wr.heap.size (Array.getElem?_eq_some_iff.1 HB6.out).1 (by have := HC.out.map.lt; simp; omega)).trans HB6.out); clear hm7 hg7; refine hK.out _ _ HB7.out (fun hHeld => ?_)
     clear hK K
     try simp only [Act.put, List.setIfInBounds_toArray, List.set_cons_zero, List.set_cons_succ]
     refine wpAnyH_done (by kernel_rfl) ?_ _
     go_wp2
     exact ⟨⟨k + 1, _, by omega, by go_num, HC.out.step hlt H1.out (HBW.out.alloc HBW.out.size _).drew HG6.out HT6.out HP.out HO6.out HM7.out HG7.out⟩, by simp [intOf]; omega⟩
   ·have hke : k = l.length := by omega
    subst hke
    have HON := hid (ones_all HC.out.ones)
    have hJ0 : CkJ l w 0 m wr := ⟨fun w' h => by omega, HC.out.map, by have := HC.out.inv; rwa [List.take_of_length_le (Nat.le_refl _)] at this, HC.out.below⟩
    have HJ0 := hid hJ0
    clear hJ0 HC H0
    go_wp2
    go_loopw [33] (ChkRel2 l w m) (fun i _ => 64 - (intOf i).toNat)
    case atStart => exact ⟨0, by omega, rfl, HJ0.out⟩
    case round =>
     obtain ⟨j, hj, rfl, hck⟩ := hrel
     have HC := hid hck
     clear hck HJ0
     by_cases hlt2 : j < 64
     ·obtain ⟨ys, hys, how⟩ := HC.out.inv.own j
      have hyl : ys.length ≤ 1000000 := by rw [hys.length_eq]; exact Nat.le_trans (List.length_filter_le _ _) hl
      obtain ⟨p2, c2, hv, hyc, -⟩ := own_row how
      obtain ⟨mm, hmm⟩ : ∃ mm : Nat, mm = ys.length - 1 := ⟨_, rfl⟩
      have hmx : max ((ys.length : Int) - 1) 0 = (mm : Int) := by omega
      have hmc : (mm : Int) ≤ (c2 : Int) := by omega
      have hmc2 : mm ≤ c2 := by omega
      have hml : mm ≤ ys.length := by omega
      have HMM := hid hmm
      clear hmm
      have HV := hid hv
      have HSC := hid (sortc_any how hyl)
      rw [hv] at HSC
      clear hv
      go_wp2_with (first
       | ((with_reducible show wpList _ _ _ (⟨some 38, _, _, _, _, _⟩ :: _) _ _); refine wpList_wm rfl (.tmp 36) (.tmp 37) rfl w.heap.size m rfl HC.out.map (j : Int) rfl ?_; rw [HV.out])
       | (go_at_call 45; (with_reducible refine HSC.out.mono ?_); rintro e w5 ⟨rfl, ys', hp', hs', ho', hg'⟩; have HP := hid (hp'.trans hys); have HS := hid hs'; have HLN := hid hp'.length_eq; have HO := hid ho'; have HG := hid hg'; clear hp' hs' ho' hg'))
      have HJ := hid (HC.out.sort (by rw [HV.out]; exact HG.out) HP.out (by rw [HV.out, HLN.out]; exact HO.out))
      have hrow5 := own_slice_row HO.out
      have HR5 := hid hrow5
      clear hrow5 hmx
      go_loopw [48] (fun i wr => ∃ k : Nat, k ≤ mm ∧ i = .int .i64 k ∧ nearTo ys' k ∧ Below w5.heap.size w5 wr) (fun i _ => mm - (intOf i).toNat)
      case atStart => exact ⟨0, Nat.zero_le _, rfl, fun i hi => by omega, Below.refl _ _⟩
      case round =>
       obtain ⟨i, hi, rfl, hnr, hb⟩ := hrel
       have HN := hid hnr
       have HB := hid hb
       clear hnr hb
       by_cases hlt3 : i < mm
       ·have hi1 : i + 1 < ys.length := by have := HMM.out; omega
        have hi2 : i < ys'.length := by have := HLN.out; omega
        have hi3 : i + 1 < ys'.length := by have := HLN.out; omega
        obtain ⟨b2, o2, rfl, hb2, -⟩ := HR5.out.at (by have := flat_len Cl.cellsLn 8 (fun _ => rfl) ys'; omega)
        have hr2 := HR5.out.below HB.out
        obtain ⟨a0, a1, a2, a3, a4, a5, a6, a7⟩ := cl_held hr2 i hi2
        obtain ⟨d0, d1, d2, d3, d4, d5, d6, d7⟩ := cl_held hr2 (i + 1) hi3
        have HA := hid (fun w1 => ahead_lit (cAt ys' i) (cAt ys' (i + 1)) w1)
        have HN1 := hid (fun h => nearTo_succ HN.out (k := i) h)
        have HN2 := hid (fun h => near_bad HON.out hlt2 HP.out HS.out (i := i) hi3 h)
        have hq1 : decide ((i : Int) < 0) = false := decide_eq_false (by omega)
        have hq2 : decide ((ys.length : Int) ≤ (i : Int)) = false := decide_eq_false (by omega)
        have hq3 : decide (ys.length ≤ i) = false := decide_eq_false (by omega)
        have hx1 : decide ((i : Int) + 1 < 0) = false := decide_eq_false (by omega)
        have hx2 : decide ((ys.length : Int) ≤ (i : Int) + 1) = false := decide_eq_false (by omega)
        have hil : i < ys.length := by omega
        have hx3 : decide (ys.length ≤ i + 1) = false := decide_eq_false (by omega)
        have hx6 : (0 : Int) ≤ (i : Int) + 1 := by omega
        have hx7 : (i : Int) + 1 < (ys.length : Int) := by omega
        have hx4 : IntKind.i64.wrap ((i : Int) + 1) = (i : Int) + 1 := IntWalk.i64_in _ (by omega)
        have hx5 : ((i : Int) + 1).toNat = i + 1 := by omega
        clear hr2
        go_upto_region 19 with (fail)
        go_cut [61] from 51 to 61 (fun v wx => v = .bool (!aheadC (cAt ys' i) (cAt ys' (i + 1))) ∧ Below wr.heap.size wr wx)
        case first =>
         refine wp_region_held_drew (S := fun w' => Below wr.heap.size wr w') (by kernel_rfl) ((Below.refl _ _).drew) (fun hHeld => ?_)
         refine wpAnyH_take (i := 0) (oi := { dst := some 51, op := Op.move (Operand.tmp 7), type := 32, pos := "linear.go:48", after := #[], guard := none }) (v := ?aav0) rfl (by kernel_rfl) (by kernel_rfl) (by kernel_rfl) (fun _ _ _ h => h) (Or.inl ⟨by rfl, ?aah0⟩) (by assumption) ?aar0
         case aah0 => ((intro w hSw; (try dsimp only at hSw); go_simp); try with_reducible rfl)
         try simp only [Act.put, List.setIfInBounds_toArray, List.set_cons_zero, List.set_cons_succ]
         refine wpAnyH_take (i := 1) (oi := { dst := some 52, op := Op.move (Operand.tmp 8), type := 3, pos := "linear.go:48", after := #[], guard := none }) (v := ?aav1) rfl (by kernel_rfl) (by kernel_rfl) (by kernel_rfl) (fun _ _ _ h => h) (Or.inl ⟨by rfl, ?aah1⟩) (by assumption) ?aar1
         case aah1 => ((intro w hSw; (try dsimp only at hSw); go_simp); try with_reducible rfl)
         try simp only [Act.put, List.setIfInBounds_toArray, List.set_cons_zero, List.set_cons_succ]
         refine wpAnyH_take (i := 2) (oi := { dst := some 53, op := Op.indexAddr 32 (Operand.tmp 51) (Operand.tmp 52), type := 0, pos := "linear.go:48", after := #[{ on := 0, ground := Ground.data }, { on := 1, ground := Ground.data }], guard := none }) (v := ?aav2) rfl (by kernel_rfl) (by kernel_rfl) (by kernel_rfl) (fun _ _ _ h => h) (Or.inl ⟨by rfl, ?aah2⟩) (by assumption) ?aar2
         case aah2 => ((intro w hSw; (try dsimp only at hSw); go_simp); try with_reducible rfl)
         try simp only [Act.put, List.setIfInBounds_toArray, List.set_cons_zero, List.set_cons_succ]
         refine wpAnyH_take (i := 3) (oi := { dst := some 54, op := Op.load 35 (Operand.tmp 53), type := 35, pos := "linear.go:48", after := #[{ on := 2, ground := Ground.data }], guard := none }) (v := ?aav3) rfl (by kernel_rfl) (by kernel_rfl) (by kernel_rfl) (fun _ _ _ h => h) (Or.inl ⟨by rfl, ?aah3⟩) (by assumption) ?aar3
         case aah3 => ((intro w hSw; (try dsimp only at hSw); go_simp); try with_reducible rfl)
         try simp only [Act.put, List.setIfInBounds_toArray, List.set_cons_zero, List.set_cons_succ]
         refine wpAnyH_take (i := 4) (oi := { dst := some 55, op := Op.move (Operand.tmp 7), type := 32, pos := "linear.go:48", after := #[], guard := none }) (v := ?aav4) rfl (by kernel_rfl) (by kernel_rfl) (by kernel_rfl) (fun _ _ _ h => h) (Or.inl ⟨by rfl, ?aah4⟩) (by assumption) ?aar4
         case aah4 => ((intro w hSw; (try dsimp only at hSw); go_simp); try with_reducible rfl)
         try simp only [Act.put, List.setIfInBounds_toArray, List.set_cons_zero, List.set_cons_succ]
         refine wpAnyH_take (i := 5) (oi := { dst := some 56, op := Op.move (Operand.tmp 8), type := 3, pos := "linear.go:48", after := #[], guard := none }) (v := ?aav5) rfl (by kernel_rfl) (by kernel_rfl) (by kernel_rfl) (fun _ _ _ h => h) (Or.inl ⟨by rfl, ?aah5⟩) (by assumption) ?aar5
         case aah5 => ((intro w hSw; (try dsimp only at hSw); go_simp); try with_reducible rfl)
         try simp only [Act.put, List.setIfInBounds_toArray, List.set_cons_zero, List.set_cons_succ]
         refine wpAnyH_take (i := 6) (oi := { dst := some 57, op := Op.binOp BinOp.add 3 (Operand.tmp 56) (Operand.const (Value.int IntKind.i64 1)) 3, type := 3, pos := "linear.go:48", after := #[{ on := 5, ground := Ground.data }], guard := none }) (v := ?aav6) rfl (by kernel_rfl) (by kernel_rfl) (by kernel_rfl) (fun _ _ _ h => h) (Or.inl ⟨by rfl, ?aah6⟩) (by assumption) ?aar6
         case aah6 => ((intro w hSw; (try dsimp only at hSw); go_simp); try with_reducible rfl)
         try simp only [Act.put, List.setIfInBounds_toArray, List.set_cons_zero, List.set_cons_succ]
         refine wpAnyH_take (i := 7) (oi := { dst := some 58, op := Op.indexAddr 32 (Operand.tmp 55) (Operand.tmp 57), type := 0, pos := "linear.go:48", after := #[{ on := 4, ground := Ground.data }, { on := 6, ground := Ground.data }], guard := none }) (v := ?aav7) rfl (by kernel_rfl) (by kernel_rfl) (by kernel_rfl) (fun _ _ _ h => h) (Or.inl ⟨by rfl, ?aah7⟩) (by assumption) ?aar7
         case aah7 => ((intro w hSw; (try dsimp only at hSw); go_simp); try with_reducible rfl)
         try simp only [Act.put, List.setIfInBounds_toArray, List.set_cons_zero, List.set_cons_succ]
         refine wpAnyH_take (i := 8) (oi := { dst := some 59, op := Op.load 35 (Operand.tmp 58), type := 35, pos := "linear.go:48", after := #[{ on := 7, ground := Ground.data }], guard := none }) (v := ?aav8) rfl (by kernel_rfl) (by kernel_rfl) (by kernel_rfl) (fun _ _ _ h => h) (Or.inl ⟨by rfl, ?aah8⟩) (by assumption) ?aar8
         case aah8 => ((intro w hSw; (try dsimp only at hSw); go_simp); try with_reducible rfl)
         try simp only [Act.put, List.setIfInBounds_toArray, List.set_cons_zero, List.set_cons_succ]
         refine wpAnyH_ready (rs := [9]) (by kernel_rfl) (by simp) ?_
         refine AllReadyH.cons (o := { dst := some 60, op := Op.call { callee := Callee.value (Operand.func 48), args := #[Operand.tmp 54, Operand.tmp 59], argTypes := #[35, 35] }, type := 4, pos := "linear.go:48", after := #[{ on := 3, ground := Ground.data }, { on := 8, ground := Ground.data }], guard := none }) rfl (fun K hK => ?_) AllReadyH.nil
         go_simp
         (go_at_call 48; with_reducible refine (HA.out _).mono ?_; rintro e w' ⟨rfl, hbq⟩; have hq9 : Below wr.heap.size wr w' := below_tr hbq (by assumption); clear hbq)
         refine hK.out _ _ (by assumption) (fun hHeld => ?_)
         clear hK K
         try simp only [Act.put, List.setIfInBounds_toArray, List.set_cons_zero, List.set_cons_succ]
         refine wpAnyH_take (i := 10) (oi := { dst := some 61, op := Op.unOp UnOp.not 4 (Operand.tmp 60), type := 4, pos := "linear.go:48", after := #[{ on := 9, ground := Ground.data }], guard := none }) (v := ?aav10) rfl (by kernel_rfl) (by kernel_rfl) (by kernel_rfl) (fun _ _ _ h => h) (Or.inl ⟨by rfl, ?aah10⟩) (by assumption) ?aar10
         case aah10 => ((intro w hSw; (try dsimp only at hSw); go_simp); try with_reducible rfl)
         try simp only [Act.put, List.setIfInBounds_toArray, List.set_cons_zero, List.set_cons_succ]
         refine wpAnyH_done (by kernel_rfl) ?_ _
         go_wp2_with fail
         go_meet
         exact ⟨rfl, by assumption⟩
        case rest =>
         obtain ⟨rfl, hbc⟩ := hcut
         have hbw := below_tr hbc HB.out
         clear a0 a1 a2 a3 a4 a5 a6 a7 d0 d1 d2 d3 d4 d5 d6 d7
         cases hA : aheadC (cAt ys' i) (cAt ys' (i + 1)) with
         | false =>
          have HVV : Hid (chkL l = 260) := HBD.out (HN2.out hA)
          clear hA
          go_wp2
          go_ret
          exact ⟨ret_int HVV.out.symm, HJ.out.below.trans (hbw.mono HJ.out.below.size)⟩
         | true =>
          have HN3 := hid (HN1.out hA)
          clear hA
          go_wp2
          exact ⟨⟨i + 1, by omega, by go_num, HN3.out, hbw⟩, by simp [intOf]; omega⟩
       ·have hie : i = mm := by omega
        subst hie
        have HGD := hid (near_good HON.out HP.out HS.out (by have := HN.out; rw [HMM.out, ← HLN.out] at this; exact this))
        go_wp2
        exact ⟨⟨j + 1, by omega, by go_num, HJ.out.step HGD.out HB.out⟩, by simp [intOf]; omega⟩
     ·have hje : j = 64 := by omega
      subst hje
      have HVV := hid (HG.out (ws_all HON.out HC.out.ws))
      go_wp2
      go_ret
      exact ⟨ret_int HVV.out.symm, HC.out.below⟩
end Go.Proofs.YtabkmdhkfbcldaaGreat
namespace Go.Proofs.YtabkmdhkfbcldaaGreat
open Go.RowKit
set_option maxRecDepth 20000 in
set_option maxHeartbeats 4000000 in
theorem row_n (l : List Cl) (p : Option Addr) (c : Nat) (key : ByteArray) (w : World) (hl : l.length ≤ 1000000) (hc : l.length ≤ c) (hrow : Row w p (l.flatMap Cl.cellsLn)) (hcase : ((splitTo l key l.length).s = false ∧ (splitTo l key l.length).a.length = 0) ∨ ((splitTo l key l.length).s = true ∧ (splitTo l key l.length).p.length ≠ 1)) :
  Calls Tryz.prog 32 #[.slice p l.length c, .string key] w (RowTell l key w) := by
 have HSp := hid (split_any l p c key (w.alloc (.cells #[.slice p l.length c] 32)) hl hc (hrow.alloc _))
 have HR := hid hrow
 unfold SplitTell at HSp
 have hlen := split_len l key l.length
 have hlt := split_lt (l := l) (k := key) l.length
 have hall := split_all (l := l) (k := key)
 have HA := hid hall
 generalize hs : splitTo l key l.length = s at HSp hlen hlt HA hcase
 have HS := hid hs
 have HLT := hid hlt
 have HLEN := hid hlen
 have HCS := hid hcase
 clear hrow hs hall hlt hlen hcase
 go_enter Tryz.func32, Tryz.ntmps32
 go_wp2
 go_step3
 go_wp2_with (first
  | (go_at_call 50; (with_reducible refine HSp.out.mono ?_); rintro e w1 ⟨vb, va, vp, rfl, hob, hoa, hop, hba, hbp, hap, hb1⟩; rw [World.size_alloc] at hob hoa hop hb1; have HRW := hid (rw_start (l := l) (key := key) (p := p) (c := c) hob hoa hop hba hbp hap hb1); obtain ⟨pb, cb, rfl, -⟩ := own_shape hob; obtain ⟨pa, ca, rfl, -⟩ := own_shape hoa; obtain ⟨pp, cp, rfl, -⟩ := own_shape hop; have hz1 := hb1.size; simp only [World.size_alloc] at hz1; clear hob hoa hop hba hbp hap hb1))
 obtain ⟨W2, hW2⟩ : ∃ W2, W2 = w1.alloc (.cells #[.slice pb s.b.length cb, .slice pa s.a.length ca, .slice pp s.p.length cp, .bool s.s] 109) := ⟨_, rfl⟩
 rw [← hW2] at HRW
 have hz2 : W2.heap.size = w1.heap.size + 1 := by rw [hW2]; simp
 rw [← hW2]
 clear hW2
 (with_reducible refine (sorti_any HRW.out.ob (by have := HLEN.out; omega) HLT.out.1 (cell_of_row _ _ 0 _ _ _ HRW.out.box) (HR.out.below HRW.out.below) (RwI.bl_ne HRW.out.ob) (RwI.row_ne HR.out HLT.out.1 HRW.out.ob)).mono ?_)
 rintro e W3 ⟨rfl, sb, hpb, hfb, hob, hgb⟩
 have hlb := hpb.length_eq
 rw [← hlb] at hob hgb HRW ⊢
 have HRW3 := hid (HRW.out.sortB hgb hob)
 have HPB := hid (⟨hpb, hfb⟩ : sb.Perm s.b ∧ ByFr l sb)
 obtain ⟨x0, x1, x2, x3, -⟩ := blk_cells HRW3.out.blk
 clear hob hgb hpb hfb HRW hlb
 go_wp2_with fail
 (with_reducible refine (sorti_any HRW3.out.oa (by have := HLEN.out; omega) HLT.out.2.1 (cell_of_row _ _ 0 _ _ _ HRW3.out.box) (HR.out.below HRW3.out.below) (RwI.bl_ne HRW3.out.oa) (RwI.row_ne HR.out HLT.out.2.1 HRW3.out.oa)).mono ?_)
 rintro e W4 ⟨rfl, sa, hpa, hfa, hoa, hga⟩
 have hla := hpa.length_eq
 rw [← hla] at hoa hga HRW3 ⊢
 try rw [← hla] at HCS
 have HRW4 := hid (HRW3.out.sortA hga hoa)
 have HPA := hid (⟨hpa, hfa⟩ : sa.Perm s.a ∧ ByFr l sa)
 clear hoa hga hpa hfa HRW3 hla x0 x1 x2 x3
 have HP : Hid (Parts l key sb sa) := by
  have h1 := HPB.out
  have h2 := HPA.out
  rw [HA.out] at h1 h2
  exact ⟨h1.1, h2.1, h1.2, h2.2⟩
 obtain ⟨x0, x1, x2, x3, -⟩ := blk_cells HRW4.out.blk
 have y0 := cell_of_row _ _ 0 _ _ _ HRW4.out.box
 simp only [List.getElem?_toArray, List.getElem?_cons_zero] at y0
 have HL2 : Hid (sb.length ≤ 1000000 ∧ sa.length ≤ 1000000 ∧ s.p.length ≤ 1000000) := by
  have h1 := HPB.out.1.length_eq
  have h2 := HPA.out.1.length_eq
  have := HLEN.out
  exact ⟨by omega, by omega, by omega⟩
 have HLT2 : Hid ((∀ i ∈ sb, i < l.length) ∧ (∀ i ∈ sa, i < l.length) ∧ ∀ i ∈ s.p, i < l.length) :=
  ⟨fun i hi => HLT.out.1 i (HPB.out.1.mem_iff.1 hi), fun i hi => HLT.out.2.1 i (HPA.out.1.mem_iff.1 hi), HLT.out.2.2⟩
 clear HSp HA HLT HLEN HPB HPA
 generalize hps : s.p = sp at *
 generalize hsu : s.s = su at *
 have hz3 := HRW4.out.below.size
 clear hz1 hz2
 rcases HCS.out with ⟨rfl, hsa⟩ | ⟨rfl, hsp⟩
 ·have HV : Hid (rowC l sb sa sp false = some sb) := by unfold Hid rowC; rw [if_pos ⟨rfl, hsa⟩]
  rw [hsa] at x1 ⊢
  clear hsa
  go_wp2
  rw [Exit.noGoto_ret]
  go_ret2
  refine ⟨sb, sa, HP.out, HRW4.out.below, .inl ⟨sb, _, ?_, rfl, own_lower HRW4.out.ob (by omega)⟩⟩
  rw [HS.out, hps, hsu]; exact HV.out
 ·have HV : Hid (rowC l sb sa sp true = none) := by unfold Hid rowC; rw [if_neg (by simp), if_pos ⟨rfl, hsp⟩]
  have hsp1 : ((sp.length : Int) == 1) = false := by simpa using (by omega : ¬ (sp.length : Int) = 1)
  have hsp2 : ((sp.length : Int) != 1) = true := by simpa using (by omega : ¬ (sp.length : Int) = 1)
  clear hsp
  go_wp2
  rw [Exit.noGoto_ret]
  go_ret2
  refine ⟨sb, sa, HP.out, HRW4.out.below, .inr ⟨?_, rfl⟩⟩
  rw [HS.out, hps, hsu]; exact HV.out
end Go.Proofs.YtabkmdhkfbcldaaGreat
namespace Go.Proofs.YtabkmdhkfbcldaaGreat
open Go.RowKit
set_option maxRecDepth 20000 in
set_option maxHeartbeats 4000000 in
theorem row_t (l : List Cl) (p : Option Addr) (c : Nat) (key : ByteArray) (w : World) (hl : l.length ≤ 1000000) (hc : l.length ≤ c) (hrow : Row w p (l.flatMap Cl.cellsLn)) (hcase : (splitTo l key l.length).s = true ∧ (splitTo l key l.length).p.length = 1) :
  Calls Tryz.prog 32 #[.slice p l.length c, .string key] w (RowTell l key w) := by
 have HSp := hid (split_any l p c key (w.alloc (.cells #[.slice p l.length c] 32)) hl hc (hrow.alloc _))
 have HR := hid hrow
 unfold SplitTell at HSp
 have hlen := split_len l key l.length
 have hlt := split_lt (l := l) (k := key) l.length
 have hall := split_all (l := l) (k := key)
 have HA := hid hall
 generalize hs : splitTo l key l.length = s at HSp hlen hlt HA hcase
 have HS := hid hs
 have HLT := hid hlt
 have HLEN := hid hlen
 have HCS := hid hcase
 clear hrow hs hall hlt hlen hcase
 go_enter Tryz.func32, Tryz.ntmps32
 go_wp2
 go_step3
 go_wp2_with (first
  | (go_at_call 50; (with_reducible refine HSp.out.mono ?_); rintro e w1 ⟨vb, va, vp, rfl, hob, hoa, hop, hba, hbp, hap, hb1⟩; rw [World.size_alloc] at hob hoa hop hb1; have HRW := hid (rw_start (l := l) (key := key) (p := p) (c := c) hob hoa hop hba hbp hap hb1); obtain ⟨pb, cb, rfl, -⟩ := own_shape hob; obtain ⟨pa, ca, rfl, -⟩ := own_shape hoa; obtain ⟨pp, cp, rfl, -⟩ := own_shape hop; have hz1 := hb1.size; simp only [World.size_alloc] at hz1; clear hob hoa hop hba hbp hap hb1))
 obtain ⟨W2, hW2⟩ : ∃ W2, W2 = w1.alloc (.cells #[.slice pb s.b.length cb, .slice pa s.a.length ca, .slice pp s.p.length cp, .bool s.s] 109) := ⟨_, rfl⟩
 rw [← hW2] at HRW
 have hz2 : W2.heap.size = w1.heap.size + 1 := by rw [hW2]; simp
 rw [← hW2]
 clear hW2
 (with_reducible refine (sorti_any HRW.out.ob (by have := HLEN.out; omega) HLT.out.1 (cell_of_row _ _ 0 _ _ _ HRW.out.box) (HR.out.below HRW.out.below) (RwI.bl_ne HRW.out.ob) (RwI.row_ne HR.out HLT.out.1 HRW.out.ob)).mono ?_)
 rintro e W3 ⟨rfl, sb, hpb, hfb, hob, hgb⟩
 have hlb := hpb.length_eq
 rw [← hlb] at hob hgb HRW ⊢
 have HRW3 := hid (HRW.out.sortB hgb hob)
 have HPB := hid (⟨hpb, hfb⟩ : sb.Perm s.b ∧ ByFr l sb)
 obtain ⟨x0, x1, x2, x3, -⟩ := blk_cells HRW3.out.blk
 clear hob hgb hpb hfb HRW hlb
 go_wp2_with fail
 (with_reducible refine (sorti_any HRW3.out.oa (by have := HLEN.out; omega) HLT.out.2.1 (cell_of_row _ _ 0 _ _ _ HRW3.out.box) (HR.out.below HRW3.out.below) (RwI.bl_ne HRW3.out.oa) (RwI.row_ne HR.out HLT.out.2.1 HRW3.out.oa)).mono ?_)
 rintro e W4 ⟨rfl, sa, hpa, hfa, hoa, hga⟩
 have hla := hpa.length_eq
 rw [← hla] at hoa hga HRW3 ⊢
 try rw [← hla] at HCS
 have HRW4 := hid (HRW3.out.sortA hga hoa)
 have HPA := hid (⟨hpa, hfa⟩ : sa.Perm s.a ∧ ByFr l sa)
 clear hoa hga hpa hfa HRW3 hla x0 x1 x2 x3
 have HP : Hid (Parts l key sb sa) := by
  have h1 := HPB.out
  have h2 := HPA.out
  rw [HA.out] at h1 h2
  exact ⟨h1.1, h2.1, h1.2, h2.2⟩
 obtain ⟨x0, x1, x2, x3, -⟩ := blk_cells HRW4.out.blk
 have y0 := cell_of_row _ _ 0 _ _ _ HRW4.out.box
 simp only [List.getElem?_toArray, List.getElem?_cons_zero] at y0
 have HL2 : Hid (sb.length ≤ 1000000 ∧ sa.length ≤ 1000000 ∧ s.p.length ≤ 1000000) := by
  have h1 := HPB.out.1.length_eq
  have h2 := HPA.out.1.length_eq
  have := HLEN.out
  exact ⟨by omega, by omega, by omega⟩
 have HLT2 : Hid ((∀ i ∈ sb, i < l.length) ∧ (∀ i ∈ sa, i < l.length) ∧ ∀ i ∈ s.p, i < l.length) :=
  ⟨fun i hi => HLT.out.1 i (HPB.out.1.mem_iff.1 hi), fun i hi => HLT.out.2.1 i (HPA.out.1.mem_iff.1 hi), HLT.out.2.2⟩
 clear HSp HA HLT HLEN HPB HPA
 generalize hps : s.p = sp at *
 generalize hsu : s.s = su at *
 have hz3 := HRW4.out.below.size
 clear hz1 hz2
 obtain ⟨rfl, hsp⟩ := HCS.out
 have HV : Hid (∀ r, rowC l sb sa sp true = r ↔ (match sp.find? (fitsC l sb sa) with | some p => some (sb ++ p :: sa) | none => none) = r) := by
  unfold Hid rowC; rw [if_neg (by simp), if_neg (by simp [hsp])]; exact fun _ => Iff.rfl
 have hsp1 : ((sp.length : Int) == 1) = true := by simpa using (by omega : (sp.length : Int) = 1)
 have hsp2 : ((sp.length : Int) != 1) = false := by simpa using (by omega : (sp.length : Int) = 1)
 clear hsp
 go_wp2
 go_step3
 go_wp2
 have hspl := HL2.out.2.2
 have hsbl := HL2.out.1
 have hsal := HL2.out.2.1
 go_loopw [44] (RowRel l key w w1.heap.size p c (.slice pb sb.length cb) (.slice pa sa.length ca) (.slice pp sp.length cp) sb sa sp true) (fun i _ => sp.length - (intOf i).toNat)
 case atStart => exact ⟨0, Nat.zero_le _, rfl, fun j hj => by omega, HRW4.out⟩
 case round =>
  obtain ⟨k, hk, rfl, hno, hrw⟩ := hrel
  have HNO := hid hno
  have HQ := hid hrw
  clear hno hrw
  by_cases hlt : k < sp.length
  ·have hrp := own_slice_row HQ.out.op
   obtain ⟨b4, o4, rfl, hb4, -⟩ := hrp.at (by simpa using (show 0 < sp.length by omega))
   have cq := nat_at hrp k hlt
   have hql := getD_lt HLT2.out.2.2 hlt
   have HN1 := hid (fun h => noneTo_succ HNO.out (k := k) h)
   have HN2 := hid (fun h => find_at hlt HNO.out (k := k) h)
   generalize sp.getD k 0 = q at cq hql HN1 HN2
   have HF := hid (fits_any l p c sb sa pb pa (some ⟨b4, o4, none⟩) cb ca sp.length cp true q wr hl hql HLT2.out.1 HLT2.out.2.1 HL2.out.1 HL2.out.2.1 (HR.out.below HQ.out.below) (own_slice_row HQ.out.ob) (own_slice_row HQ.out.oa))
   obtain ⟨x0, x1, x2, x3, -⟩ := blk_cells HQ.out.blk
   have y0 := cell_of_row _ _ 0 _ _ _ HQ.out.box
   simp only [List.getElem?_toArray, List.getElem?_cons_zero] at y0
   clear hrp
   cases hf : fitsC l sb sa q with
   | false =>
    rw [hf] at HF
    have HN3 := hid (HN1.out hf)
    clear hf
    go_wp2_with (go_at_call 53; (with_reducible refine HF.out.mono ?_); rintro e w5 ⟨rfl, hb5⟩)
    exact ⟨⟨k + 1, by omega, by go_num, HN3.out, HQ.out.belowI hb5⟩, by simp [intOf]; omega⟩
   | true =>
    rw [hf] at HF
    have HN3 := hid (HN2.out hf)
    clear hf
    go_wp2_with (go_at_call 53; (with_reducible refine HF.out.mono ?_); rintro e w5 ⟨rfl, hb5⟩)
    have HQ5 := hid (HQ.out.belowI hb5)
    have hz5 := HQ5.out.below.size
    have hg1 := HQ5.out.ge
    have hg2 : w1.heap.size < w5.heap.size := (Array.getElem?_eq_some_iff.1 HQ5.out.blk).1
    have HBA := hid (fun o : Obj => (Below.heap_alloc w5 o w1.heap.size hg2).trans HQ5.out.blk)
    clear hb5 x0 x1 x2 x3 y0
    have x0 : ∀ w' : World, w'.heap[w1.heap.size]? = some (.cells #[.slice pb sb.length cb, .slice pa sa.length ca, .slice (some ⟨b4, o4, none⟩) sp.length cp, .bool true] 109 (0, 0)) → w'.cell? ⟨w1.heap.size, 0, none⟩ = some (.slice pb sb.length cb) := fun w' h => (blk_cells h).1
    have x1 : ∀ w' : World, w'.heap[w1.heap.size]? = some (.cells #[.slice pb sb.length cb, .slice pa sa.length ca, .slice (some ⟨b4, o4, none⟩) sp.length cp, .bool true] 109 (0, 0)) → w'.cell? ⟨w1.heap.size, 1, none⟩ = some (.slice pa sa.length ca) := fun w' h => (blk_cells h).2.1
    go_upto_region 13 with (fail)
    refine wp_region_held_drew (S := fun w' : World => w'.heap[w1.heap.size]? = some (.cells #[.slice pb sb.length cb, .slice pa sa.length ca, .slice (some ⟨b4, o4, none⟩) sp.length cp, .bool true] 109 (0, 0))) (by kernel_rfl) HQ5.out.blk (fun hHeld => ?_)
    refine wpAnyH_take (i := 0) (oi := { dst := some 53, op := Op.fieldAddr 109 (Operand.tmp 6) 0, type := 0, pos := "linear.go:206", after := #[], guard := none }) (v := ?rgv0) rfl (by kernel_rfl) (by kernel_rfl) (by kernel_rfl) (fun _ _ _ h => h) (Or.inl ⟨by rfl, ?rgh0⟩) (by assumption) ?rgr0
    case rgh0 => ((intro w hSw; (try dsimp only at hSw); go_simp); try with_reducible rfl)
    try simp only [Act.put, List.setIfInBounds_toArray, List.set_cons_zero, List.set_cons_succ]
    refine wpAnyH_take (i := 1) (oi := { dst := some 54, op := Op.load 40 (Operand.tmp 53), type := 40, pos := "linear.go:206", after := #[{ on := 0, ground := Ground.data }], guard := none }) (v := ?rgv1) rfl (by kernel_rfl) (by kernel_rfl) (by kernel_rfl) (fun _ _ _ h => h) (Or.inl ⟨by rfl, ?rgh1⟩) (by assumption) ?rgr1
    case rgh1 => ((intro w hSw; (try dsimp only at hSw); go_simp); try with_reducible rfl)
    try simp only [Act.put, List.setIfInBounds_toArray, List.set_cons_zero, List.set_cons_succ]
    refine wpAnyH_take (i := 2) (oi := { dst := some 55, op := Op.move (Operand.tmp 9), type := 3, pos := "linear.go:206", after := #[], guard := none }) (v := ?rgv2) rfl (by kernel_rfl) (by kernel_rfl) (by kernel_rfl) (fun _ _ _ h => h) (Or.inl ⟨by rfl, ?rgh2⟩) (by assumption) ?rgr2
    case rgh2 => ((intro w hSw; (try dsimp only at hSw); go_simp); try with_reducible rfl)
    try simp only [Act.put, List.setIfInBounds_toArray, List.set_cons_zero, List.set_cons_succ]
    refine wpAnyH_take (i := 5) (oi := { dst := some 58, op := Op.fieldAddr 109 (Operand.tmp 6) 1, type := 0, pos := "linear.go:206", after := #[], guard := none }) (v := ?rgv5) rfl (by kernel_rfl) (by kernel_rfl) (by kernel_rfl) (fun _ _ _ h => h) (Or.inl ⟨by rfl, ?rgh5⟩) (by assumption) ?rgr5
    case rgh5 => ((intro w hSw; (try dsimp only at hSw); go_simp); try with_reducible rfl)
    try simp only [Act.put, List.setIfInBounds_toArray, List.set_cons_zero, List.set_cons_succ]
    refine wpAnyH_take (i := 6) (oi := { dst := some 59, op := Op.load 40 (Operand.tmp 58), type := 40, pos := "linear.go:206", after := #[{ on := 5, ground := Ground.data }], guard := none }) (v := ?rgv6) rfl (by kernel_rfl) (by kernel_rfl) (by kernel_rfl) (fun _ _ _ h => h) (Or.inl ⟨by rfl, ?rgh6⟩) (by assumption) ?rgr6
    case rgh6 => ((intro w hSw; (try dsimp only at hSw); go_simp); try with_reducible rfl)
    try simp only [Act.put, List.setIfInBounds_toArray, List.set_cons_zero, List.set_cons_succ]
    refine wpAnyH_ready (rs := [3]) (by kernel_rfl) (by simp) ?_
    refine AllReadyH.cons (o := { dst := some 56, op := Op.buildSlice 40 1 #[(0, Operand.tmp 55)], type := 40, pos := "linear.go:206", after := #[{ on := 2, ground := Ground.data }], guard := none }) rfl (fun K hK => ?_) AllReadyH.nil
    go_simp; refine hK.out _ _ (HBA.out _) (fun hHeld => ?_)
    clear hK K
    try simp only [Act.put, List.setIfInBounds_toArray, List.set_cons_zero, List.set_cons_succ]
    refine wpAnyH_ready (rs := [4]) (by kernel_rfl) (by simp) ?_
    refine AllReadyH.cons (o := { dst := some 57, op := Op.call { callee := Callee.builtin Builtin.append, args := #[Operand.tmp 54, Operand.tmp 56], argTypes := #[40, 40] }, type := 40, pos := "linear.go:206", after := #[{ on := 1, ground := Ground.data }, { on := 3, ground := Ground.data }], guard := none }) rfl (fun K hK => ?_) AllReadyH.nil
    (refine step_app EInt rfl (.tmp 54) (.tmp 56) rfl (w.heap.size + 1) _ _ (sb.map natVLn) rfl (HQ5.out.ob.alloc _) _ 1 1 [natVLn q] rfl rfl (row_newAt _ _ _ _ (by simp)) (by simp [natVLn, Value.oneCell']) (by unfold maxLen; omega) (by omega) (by simp; omega) ?_); intro v4 w4 ho4 hg4 hs4; obtain ⟨p4, c4, rfl, -⟩ := own_shape ho4; have HO4 := hid ho4; have HB4 := hid (RwI.appB HQ5.out ((Below.refl _ _).alloc (Nat.le_refl _) _).drew hg4 hs4); clear ho4 hg4 hs4; refine hK.out _ _ HB4.out.1 (fun hHeld => ?_)
    clear hK K
    try simp only [Act.put, List.setIfInBounds_toArray, List.set_cons_zero, List.set_cons_succ]
    refine wpAnyH_ready (rs := [7]) (by kernel_rfl) (by simp) ?_
    refine AllReadyH.cons (o := { dst := some 60, op := Op.call { callee := Callee.builtin Builtin.append, args := #[Operand.tmp 57, Operand.tmp 59], argTypes := #[40, 40] }, type := 40, pos := "linear.go:206", after := #[{ on := 4, ground := Ground.data }, { on := 6, ground := Ground.data }, { on := 4, ground := Ground.chain }], guard := none }) rfl (fun K hK => ?_) AllReadyH.nil
    (refine step_appO EInt rfl (.tmp 57) (.tmp 59) rfl (w.heap.size + 1) _ _ (sb.map natVLn ++ [natVLn q]) rfl HO4.out _ sa.length ca (sa.map natVLn) rfl (by simp) (own_nilcap HQ5.out.oa) HB4.out.2.2.2.1 nat_ones (by unfold maxLen; omega) (by omega) HB4.out.2.2.1 ?_); intro v6 w6 ho6 hg6 hs6; obtain ⟨p6, c6, rfl, -⟩ := own_shape ho6; have HO6 := hid ho6; have HB6 := hid (HB4.out.2.1.grown hg6 (by have := HB4.out.2.2.1; omega) (fun k e => by have := own_ge HO4.out _ e; omega)); have HS6 := hid ((hg6.block _ (Array.getElem?_eq_some_iff.1 HB4.out.1).1 (fun e => HB4.out.2.2.2.2 e.symm)).trans HB4.out.1); clear ho6 hg6 hs6; refine hK.out _ _ HS6.out (fun hHeld => ?_)
    clear hK K
    try simp only [Act.put, List.setIfInBounds_toArray, List.set_cons_zero, List.set_cons_succ]
    refine wpAnyH_take (i := 8) (oi := { dst := some 4, op := Op.assign (Operand.tmp 60), type := 40, pos := "linear.go:206", after := #[{ on := 7, ground := Ground.data }, { on := 7, ground := Ground.chain }, { on := 0, ground := Ground.phase }, { on := 1, ground := Ground.phase }, { on := 2, ground := Ground.phase }, { on := 3, ground := Ground.phase }, { on := 4, ground := Ground.phase }, { on := 5, ground := Ground.phase }, { on := 6, ground := Ground.phase }, { on := 7, ground := Ground.phase }], guard := none }) (v := ?rgv8) rfl (by kernel_rfl) (by kernel_rfl) (by kernel_rfl) (fun _ _ _ h => h) (Or.inl ⟨by rfl, ?rgh8⟩) (by assumption) ?rgr8
    case rgh8 => ((intro w hSw; (try dsimp only at hSw); go_simp); try with_reducible rfl)
    try simp only [Act.put, List.setIfInBounds_toArray, List.set_cons_zero, List.set_cons_succ]
    refine wpAnyH_take (i := 9) (oi := { dst := some 5, op := Op.assign (Operand.const (Value.bool true)), type := 4, pos := "linear.go:206", after := #[{ on := 8, ground := Ground.chain }, { on := 0, ground := Ground.phase }, { on := 1, ground := Ground.phase }, { on := 2, ground := Ground.phase }, { on := 3, ground := Ground.phase }, { on := 4, ground := Ground.phase }, { on := 5, ground := Ground.phase }, { on := 6, ground := Ground.phase }, { on := 7, ground := Ground.phase }, { on := 8, ground := Ground.phase }], guard := none }) (v := ?rgv9) rfl (by kernel_rfl) (by kernel_rfl) (by kernel_rfl) (fun _ _ _ h => h) (Or.inl ⟨by rfl, ?rgh9⟩) (by assumption) ?rgr9
    case rgh9 => ((intro w hSw; (try dsimp only at hSw); go_simp); try with_reducible rfl)
    try simp only [Act.put, List.setIfInBounds_toArray, List.set_cons_zero, List.set_cons_succ]
    refine wpAnyH_done (by kernel_rfl) ?_ _
    go_wp2_with fail
    rw [Exit.noGoto_ret]
    go_ret2
    refine ⟨sb, sa, HP.out, HB6.out, .inl ⟨sb ++ q :: sa, _, ?_, rfl, ?_⟩⟩
    ·rw [HS.out, hps, hsu]
     refine (HV.out _).2 ?_
     rw [HN3.out]
    ·exact own_lower (own_cast HO6.out (by simp; omega) (by simp)) (by omega)
  ·have hke : k = sp.length := by omega
   subst hke
   have hv := find_none HNO.out
   have HV2 : Hid (rowC l sb sa sp true = none) := (HV.out _).2 (by rw [hv])
   clear hv
   go_wp2
   rw [Exit.noGoto_ret]
   go_ret2
   refine ⟨sb, sa, HP.out, HQ.out.below, .inr ⟨?_, rfl⟩⟩
   rw [HS.out, hps, hsu]; exact HV2.out
end Go.Proofs.YtabkmdhkfbcldaaGreat
