/-
  maps.Clone; the iterator over a map's keys: what it yields.
  slices.Sort of names, maps.Clone and maps.Keys of values, at calls.
  A range over a function whose values lie in memory: what an iterator tells of each value, what a round leaves as it lay.
  All of the code's table: the names in order, and the function that goes through them.
-/
import Derived.Test.YtabkmdhkfbcldaaJI2
import Derived.WalkMore
import Derived.LoopNIn
import Derived.LoopIn
import Derived.TacticsInMore
import Derived.OwnWalkIn
import Derived.Shelf.Abstract
import Derived.Shelf.SlMaps.Clone
import Derived.RangeFuncNested
import Derived.RangeFuncBound
import Derived.RangeFuncCalls
import Derived.RangeFuncLeaves
import Derived.Test.YtabkmdhkfbcldaaJH0
namespace Go.Proofs.Ytabkmdhkfbcldaa
open Go.RowKit
open Go.ChangeMaps (setBlock)
attribute [local go_sem] Oper.semAt_some
theorem wide_fnS (f : FuncId) : Fence.wide.fn f = True := rfl
theorem wide_depthS : Fence.wide.depth = none := rfl
attribute [local go_sem] wide_fnS wide_depthS
variable {w w' : World}

theorem grown_setBlk {w w1 : World} (h : w1 = w ∨ w1 = w.drew) (r : Nat) (o : Obj) : w.grownBy (setBlock w1 r o) (some r) := by
  rcases h with rfl | rfl
  · exact ⟨rfl, rfl, rfl, by simp [setBlock], fun i _ hi => by simp only [setBlock]; rw [Array.getElem?_setIfInBounds_ne (fun e => hi (by rw [e]))]⟩
  · exact ⟨rfl, rfl, rfl, (by show w.heap.size ≤ (w.heap.setIfInBounds r o).size; rw [Array.size_setIfInBounds]; exact Nat.le_refl _), fun i _ hi => by simp only [setBlock]; rw [Array.getElem?_setIfInBounds_ne (fun e => hi (by rw [e]))]; rfl⟩
theorem setBlk_same {w w1 : World} (h : w1 = w ∨ w1 = w.drew) {r : Nat} (o : Obj) (hr : r < w.heap.size) : (setBlock w1 r o).heap[r]? = some o := by
  rcases h with rfl | rfl
  · simp [setBlock, hr]
  · have : r < w.drew.heap.size := hr
    simp only [setBlock]
    rw [Array.getElem?_setIfInBounds_self_of_lt this]
/-- The box and the map lie on. -/
def KpM (bx bm : Nat) (A B : World) : Prop := B.heap[bx]? = A.heap[bx]? ∧ B.heap[bm]? = A.heap[bm]?
def strOf : Value → ByteArray | .string s => s | _ => .empty
theorem strOf_map (l : List ByteArray) : (l.map Value.string).map strOf = l := by
  rw [List.map_map]; exact List.map_id'' (fun _ => rfl) l
def encK (s : ByteArray) : Array Value := #[.string s]
set_option maxHeartbeats 2000000 in
theorem keys1_seq (n : Nat) (hn : 1 ≤ n) (bx bm : Nat) (m : List (ByteArray × Int)) (w : World) (hbx : w.heap[bx]? = some (.cells #[.map (some bm)] 57 (0, 0))) (hM : MapIs Value.string (Value.int .i64) w bm m) :
    SeqO Fence.wide n Try.prog 60 #[.pointer (some ⟨bx, 0, none⟩)] encK (KpM bx bm) (fun xs => xs.Perm (m.map Prod.fst)) (fun _ => True) m.length w := by
  intro l J Jx W hW hJ hJx hY h0
  have hxl : bx < w.heap.size := (Array.getElem?_eq_some_iff.1 hbx).1
  have hml := hM.lt
  have hbW := (hW.block bx hxl).trans hbx
  obtain ⟨es, clock, hbm, F, hold, hborn, hkeys⟩ := hM
  have hmW := (hW.block bm hml).trans hbm
  have hcb : W.cell? ⟨bx, 0, none⟩ = some (.map (some bm)) := cell_of_row _ _ 0 _ _ _ hbW
  have hzW := hW.size
  have HF := hid F
  have HOLD := hid hold
  have HBORN := hid hborn
  have HKP : Hid (∀ e ∈ es.toList, ∃ p ∈ m, e.key = .string p.1) := fun e he => by
    have : (e.key, e.val) ∈ m.map (fun x => (Value.string x.1, Value.int .i64 x.2)) := by rw [← F]; exact List.mem_map_of_mem (f := fun x : MapEntry => (x.key, x.val)) he
    obtain ⟨p, hp, hpe⟩ := List.mem_map.1 this
    exact ⟨p, hp, (congrArg Prod.fst hpe).symm⟩
  have HKS : Hid (es.toList.map (·.key) = (m.map Prod.fst).map Value.string) := by
    have := congrArg (List.map Prod.fst) F
    unfold Hid
    simpa [List.map_map, Function.comp_def] using this
  have HLEN : Hid (es.toList.length = m.length) := by have := congrArg List.length F; unfold Hid; simpa using this
  have HST : Hid (J [] (W.alloc (.mapIter (some bm) clock #[] clock))) := hJ.alloc _ h0
  clear F hold hborn hkeys
  show CallsIn Fence.wide n Try.prog 60 #[.func (.yield l) #[] #[], .pointer (some ⟨bx, 0, none⟩)] W _
  refine callsIn_of_wp Try.func60 rfl (show Fence.wide.fn 60 from trivial) ?_ rfl
  simp only [Try.ntmps60, List.size_toArray, List.length_cons, List.length_nil, Nat.reduceAdd, Nat.reduceSub, Array.replicate_succ, Array.replicate_zero, List.push_toArray, List.append_toArray, List.nil_append, List.cons_append]
  gi_wp2_with ((with_reducible show wpListIn _ _ _ _ _ (⟨some 5, _, _, _, _, _⟩ :: _) _ _); refine wpListIn_range_m rfl (.tmp 4) 57 9 2 Try.underlying57 rfl bm es clock rfl hmW ?_)
  simp only [Act.put, List.setIfInBounds_toArray, List.set_cons_zero, List.set_cons_succ]
  gi_loopw [3] (fun _ wr => ∃ (seen : Array Nat) (pre : List ByteArray) (c0 : Nat), J pre wr ∧ wr.heap[W.heap.size]? = some (.mapIter (some bm) clock seen c0) ∧ clock ≤ c0 ∧ wr.heap[bm]? = some (.map es clock) ∧ (pre.map Value.string ++ (leftOf es seen).toList.map (·.key)).Perm (es.toList.map (·.key)) ∧ W.heap.size < wr.heap.size) (fun _ wr => (leftOf es (wr.iterSeen W.heap.size)).size)
  case atStart =>
    refine ⟨#[], [], clock, HST.out, heap_alloc_new W _, Nat.le_refl _, (Below.heap_alloc W _ bm (by omega)).trans hmW, ?_, by simp⟩
    rw [left_list]
    have : es.toList.filter (fun x => !(#[] : Array Nat).contains x.born) = es.toList := List.filter_eq_self.2 (fun x _ => by simp)
    rw [this]; exact List.Perm.refl _
  case round =>
    rename World => wx
    obtain ⟨seen, pre, c0, hJ0, hit, hc0, hmx, hperm, hzx⟩ := hrel
    have HJ0 := hid hJ0
    have HPERM := hid hperm
    have HIT := hid hit
    have HMX := hid hmx
    have HC0 := hid hc0
    have HZX := hid hzx
    clear hJ0 hperm hit hmx hc0
    have HLN : Hid (pre.length + (leftOf es seen).size = m.length) := by
      have := HPERM.out.length_eq
      simp only [List.length_append, List.length_map] at this
      have h2 : (leftOf es seen).toList.length = (leftOf es seen).size := Array.length_toList
      have h3 := HLEN.out
      unfold Hid; omega
    have HNX : Hid (∀ e ∈ (leftOf es seen).toList, ∀ x : ByteArray, e.key = .string x → ((pre ++ [x]).map Value.string ++ (leftOf es (seen.push e.born)).toList.map (·.key)).Perm (es.toList.map (·.key)) ∧ (leftOf es (seen.push e.born)).size < (leftOf es seen).size) := fun e he x hx => by
      refine ⟨?_, left_shrinks es seen e he⟩
      refine List.Perm.trans ?_ HPERM.out
      have hp := left_perm es.toList HBORN.out seen e (by rw [← left_list]; exact he)
      rw [← left_list, ← left_list] at hp
      have hp2 := (hp.map (·.key)).symm
      simp only [List.map_cons, hx] at hp2
      simp only [List.map_append, List.map_cons, List.map_nil, List.append_assoc, List.singleton_append]
      exact hp2.append_left _
    gi_wp2_with ((with_reducible show wpListIn _ _ _ _ _ (⟨some 6, _, _, _, _, _⟩ :: _) _ _); refine wpListIn_next_m rfl (.tmp 5) rfl W.heap.size bm clock c0 seen es clock rfl HIT.out HMX.out HOLD.out HC0.out (fun hzz => ?_) (fun e he w1 hw1 => ?_) <;> first
      | (have HE0 := hid hzz; clear hzz)
      | (have HE := hid he; obtain ⟨p, hp, hpk⟩ := HKP.out e (mem_left he).1; obtain ⟨x, hx⟩ : ∃ x, x = p.1 := ⟨_, rfl⟩; rw [← hx] at hpk; rw [hpk]; have HK := hid hpk; obtain ⟨w5, hw5⟩ : ∃ w5, w5 = setBlock w1 W.heap.size (.mapIter (some bm) clock (seen.push e.born) clock) := ⟨_, rfl⟩; rw [← hw5]; have HG5 : Hid (wx.grownBy w5 (some W.heap.size)) := (by rw [hw5]; exact grown_setBlk hw1 _ _); have HI5 : Hid (w5.heap[W.heap.size]? = some (.mapIter (some bm) clock (seen.push e.born) clock)) := (by rw [hw5]; exact setBlk_same hw1 _ HZX.out); have HM5 : Hid (w5.heap[bm]? = some (.map es clock)) := (HG5.out.block bm (by have := HZX.out; omega) (fun e => by have e := Option.some.inj e; omega)).trans HMX.out; have hen := run_entry_at (P := Try.prog) w5 W.heap.size bm clock seen es clock e HI5.out HM5.out (mem_left he).1 HBORN.out; rw [hpk] at hen; obtain ⟨fn, tmps, assign, body, hy, hR⟩ := hY pre x w5 (hJ _ _ _ _ HJ0.out HG5.out (fun r e => by cases e; exact ⟨Nat.le_refl _, _, HIT.out, rfl⟩)) (by have h1 := HLN.out; have h2 : 0 < (leftOf es seen).size := by { rw [← Array.length_toList]; exact List.length_pos_of_mem he }; omega); unfold encK at hy; clear hw5 hw1 he hp hx hpk))
    · have hl0 : (leftOf es seen).toList = [] := List.eq_nil_of_length_eq_zero (by rw [Array.length_toList]; exact HE0.out)
      have hp := HPERM.out
      rw [hl0, List.map_nil, List.append_nil, HKS.out] at hp
      have hp2 := hp.map strOf
      rw [strOf_map, strOf_map] at hp2
      have HP := hid hp2
      clear hl0 hp hp2
      go_end0
      exact ⟨⟨_, rfl⟩, .inl ⟨pre, HP.out, HJ0.out⟩⟩
    · refine hR.mono ?_
      clear hR hy
      have hnx := HNX.out e HE.out x HK.out
      rintro e2 W3 ⟨(⟨rfl, hJ3, hk3⟩ | ⟨rfl, hJx3⟩), hkf⟩
      · have HI3 : Hid (W3.heap[W.heap.size]? = some (.mapIter (some bm) clock (seen.push e.born) clock)) := hkf.same _ _ (Nat.le_refl _) HI5.out rfl
        have HM3 : Hid (W3.heap[bm]? = some (.map es clock)) := hk3.2.trans HM5.out
        have HZ3 : Hid (W.heap.size < W3.heap.size) := (Array.getElem?_eq_some_iff.1 HI3.out).1
        have HX3 : Hid (W3.iterSeen W.heap.size = seen.push e.born) := by unfold Hid World.iterSeen; rw [HI3.out]
        have HX0 : Hid (wx.iterSeen W.heap.size = seen) := by unfold Hid World.iterSeen; rw [HIT.out]
        have HNX2 := hid hnx
        have HJ3 := hid hJ3
        clear hnx hJ3 hk3 hkf
        gi_wp2
        go_roundw
        case rel => exact ⟨_, _, _, HJ3.out, HI3.out, Nat.le_refl _, HM3.out, HNX2.out.1, HZ3.out⟩
        case measure => rw [HX3.out, HX0.out]; exact HNX2.out.2
      · have HJ4 := hid hJx3
        clear hJx3 hnx
        gi_wp2
        refine bodyPost_ret (results_none rfl _ _ _) rfl ?_
        exact ⟨⟨_, rfl⟩, .inr ⟨_, trivial, HJ4.out⟩⟩
end Go.Proofs.Ytabkmdhkfbcldaa
namespace Go.Proofs.Ytabkmdhkfbcldaa
open Go.RowKit
variable {w w' : World}

def leB (a b : ByteArray) : Prop := a.data.toList ≤ b.data.toList
def bsOf (s : ByteArray) : List UInt8 := s.data.toList
def ofBs (l : List UInt8) : ByteArray := ⟨l.toArray⟩
theorem ofBs_bsOf (s : ByteArray) : ofBs (bsOf s) = s := rfl
/-- Names in order. -/
def sortN (l : List ByteArray) : List ByteArray := ((l.map bsOf).mergeSort fun x y => decide (x ≤ y)).map ofBs
theorem sortN_perm (l : List ByteArray) : (sortN l).Perm l := by
  have h := (List.mergeSort_perm (l.map bsOf) fun x y => decide (x ≤ y)).map ofBs
  rw [List.map_map] at h
  have e : l.map (ofBs ∘ bsOf) = l := (List.map_congr_left fun s _ => ofBs_bsOf s).trans (List.map_id l)
  rw [e] at h
  exact h
def SortTell (l : List ByteArray) (b : Nat) (w : World) (e : Ending) (w' : World) : Prop :=
  e = .returned (.tuple #[]) ∧ Row w' (some ⟨b, 0, none⟩) ((sortN l).map Value.string) ∧ w.grownBy w' (some b)
theorem sort_any (b cap : Nat) (l : List ByteArray) (w : World) (hl : l.length ≤ 1000000) (hr : Row w (some ⟨b, 0, none⟩) (l.map Value.string)) (hb : b < w.heap.size) (hf : ∀ j, w.frozen? ⟨b, j, none⟩ = false) :
    Calls Try.prog 49 #[.slice (some ⟨b, 0, none⟩) l.length cap] w (SortTell l b w) := by
  have hH : Sort.Holds encStr w b 0 (l.map bsOf).toArray := fun j hj => by
    have hj' : j < l.length := by simpa using hj
    refine ⟨?_, hf _⟩
    have := hr.cell j (by simpa using hj')
    rw [this]
    simp [hj', bsOf, encStr]
  have hc := Try.slices_Sort_string b 0 cap (l.map bsOf) w hH hb (by simp; omega)
  rw [List.length_map] at hc
  refine hc.mono fun e w' ⟨he, n, os, hw⟩ => ⟨he, ?_, ?_⟩
  · intro hne
    refine ⟨b, 0, rfl, fun i hi => ?_⟩
    have hi' : i < (sortN l).length := by simpa using hi
    have hi2 : i < ((l.map bsOf).mergeSort fun x y => decide (x ≤ y)).length := by simpa [sortN] using hi'
    subst hw
    have hput := Sort.holds_putRow encStr (Sort.ahead w n) b 0 (l.map bsOf).toArray ((l.map bsOf).mergeSort fun x y => decide (x ≤ y)).toArray (Sort.holds_ahead _ _ _ _ _ _ hH) (by simp)
    have hg := Sort.holds_grow encStr _ os b 0 _ (by simpa using hb) hput i (by simpa using hi2)
    rw [hg.1]
    simp [sortN, encStr, ofBs, hi2]
    rw [List.getElem?_eq_getElem hi2]; rfl
  · subst hw
    refine ⟨rfl, rfl, rfl, by simp, fun k hk hne => ?_⟩
    rw [Sort.heap_grow_old _ _ (by simpa using hk)]
    show (w.heap.modify b _)[k]? = _
    rw [Array.getElem?_modify, if_neg (fun e => hne (by rw [e]))]
set_option maxRecDepth 20000 in
set_option maxHeartbeats 1000000 in
theorem mclone_any (b : Nat) (m : List (ByteArray × Int)) (w : World) (h : MapIs Value.string (Value.int .i64) w b m) :
    Calls Try.prog 47 #[.map (some b)] w fun e w' => e = .returned (.map (some w.heap.size)) ∧ MapIs Value.string (Value.int .i64) w' w.heap.size m ∧ w'.heap.size = w.heap.size + 1 ∧ Below w.heap.size w w' := by
  obtain ⟨es, clock, hb, F⟩ := h
  have hq := fun w => run_eql_map_nil_sl (P := Try.prog) w 57 _ _ (some b) Try.underlying57
  have HF := hid F
  clear F
  go_enter Try.func47, Try.ntmps47
  go_wp2
  rw [run_callFunc_extern Try.func59 (by kernel_rfl) (by kernel_rfl) (by kernel_rfl) (e := Extern.MapsClone.clone) (by kernel_rfl), run_maps_clone_sl w 57 hb]
  simp only [Result.andThen]
  rw [Oper.upon_value]
  go_wp2
  rw [run_typeAssert_map_sl _ 57 _ _ _ _ Try.underlying57]
  simp only [Result.andThen]
  rw [Oper.upon_value]
  go_wp2
  go_ret
  exact ⟨rfl, ⟨es, clock, heap_alloc_new w _, HF.out⟩, by simp, (Below.refl _ _).alloc (Nat.le_refl _) _⟩
theorem keys_any (b : Nat) (w : World) : Calls Try.prog 48 #[.map (some b)] w fun e w' => e = .returned (.func (.func 60) #[] #[.pointer (some ⟨w.heap.size, 0, none⟩)]) ∧ w' = w.alloc (.cells #[.map (some b)] 57) := by
  go_enter Try.func48, Try.ntmps48
  go_wp2
  go_ret
  exact ⟨rfl, rfl⟩
end Go.Proofs.Ytabkmdhkfbcldaa
namespace Go.Proofs.Ytabkmdhkfbcldaa
open Go.RowKit

/-- A round's word: the blocks of T lie as they lay. -/
structure KeepsT (T : Nat → Prop) (W W' : World) : Prop where
  os : W'.os = W.os
  tape : W'.tape = W.tape
  output : W'.output = W.output
  size : W.heap.size ≤ W'.heap.size
  same : ∀ k, T k → k < W.heap.size → W'.heap[k]? = W.heap[k]?

theorem KeepsT.refl (T : Nat → Prop) (W : World) : KeepsT T W W := ⟨rfl, rfl, rfl, Nat.le_refl _, fun _ _ _ => rfl⟩
theorem KeepsT.trans {T : Nat → Prop} {A B C : World} (h : KeepsT T A B) (k : KeepsT T B C) : KeepsT T A C :=
  ⟨k.os.trans h.os, k.tape.trans h.tape, k.output.trans h.output, Nat.le_trans h.size k.size, fun i hi hl => (k.same i hi (Nat.lt_of_lt_of_le hl h.size)).trans (h.same i hi hl)⟩
theorem KeepsT.mono {T T' : Nat → Prop} {A B : World} (h : KeepsT T A B) (ht : ∀ k, T' k → T k) : KeepsT T' A B := ⟨h.os, h.tape, h.output, h.size, fun k hk => h.same k (ht k hk)⟩
theorem KeepsT.putObj {T : Nat → Prop} (W : World) (l : Nat) (o : Obj) (h : ¬ T l) : KeepsT T W (W.putObj l o) :=
  ⟨rfl, rfl, rfl, by simp, fun k hk _ => World.putObj_heap_other (fun e => h (e ▸ hk))⟩
theorem KeepsT.below {T : Nat → Prop} {W W' : World} (h : Below W.heap.size W W') : KeepsT T W W' := ⟨h.os, h.tape, h.output, h.size, fun k _ hl => h.block k hl⟩
theorem KeepsT.setCell {T : Nat → Prop} (W : World) (a : Addr) (v : Value) (h : ¬ T a.block) : KeepsT T W (W.setCell a v) :=
  ⟨rfl, rfl, rfl, by simp, fun k hk _ => Below.heap_setCell W a v k (fun e => h (e ▸ hk))⟩
theorem KeepsT.grown {T : Nat → Prop} {W W' : World} {row : Option Nat} (h : W.grownBy W' row) (hr : ∀ k, row = some k → ¬ T k) : KeepsT T W W' :=
  ⟨h.os, h.tape, h.output, h.size, fun k hk hl => h.block k hl (fun e => hr k e.symm hk)⟩

theorem Row.putObj {W : World} {p : Option Addr} {cs : List Value} {l : Nat} {r : Loop} (h : Row W p cs) (hl : W.heap[l]? = some (.loop r)) (o : Obj) : Row (W.putObj l o) p cs := by
  intro hcs
  obtain ⟨b, f, hp, hc⟩ := h hcs
  exact ⟨b, f, hp, fun i hi => cell_kept (hc i hi) (grownBy_putObj' W l o) (fun r e => by cases e; exact ⟨_, hl, rfl⟩)⟩
theorem cell_putObj {W : World} {a : Addr} {v : Value} {l : Nat} {r : Loop} (h : W.cell? a = some v) (hl : W.heap[l]? = some (.loop r)) (o : Obj) : (W.putObj l o).cell? a = some v ∧ (W.putObj l o).frozen? a = W.frozen? a :=
  ⟨cell_kept h (grownBy_putObj' W l o) (fun r e => by cases e; exact ⟨_, hl, rfl⟩), frozen_kept h (grownBy_putObj' W l o) (fun r e => by cases e; exact ⟨_, hl, rfl⟩)⟩
theorem Below.putObjB {B : Nat} {a W : World} (h : Below B a W) (hB : B ≤ W.heap.size) {l : Nat} (hl : B ≤ l) (o : Obj) : Below B a (W.putObj l o) := h.grown (grownBy_putObj' W l o) hB (fun k e => by cases e; exact hl)

/-- What is owned lies on where a block of another kind turns. -/
theorem own_keptO {W W' : World} {base : Nat} {e : TypeId} {size : Nat} {v : Value} {n : Nat} {xs : List Value} {l : Nat} {o : Obj} (h : W.ownsRow base e size v n xs) (hg : W.grownBy W' (some l)) (hl : W.heap[l]? = some o) (ho : o.isCells = false) : W'.ownsRow base e size v n xs := by
  refine h.kept hg ?_
  rcases h.2 with ⟨rfl, _⟩ | ⟨g, cap, cur, rfl, _, hgg, _⟩
  · exact .inl rfl
  · refine .inr (fun e => ?_)
    have e2 : g = l := by simpa [Value.ownBlock] using e
    subst e2
    rw [hgg] at hl
    cases hl
    simp [Obj.isCells] at ho
theorem Row.keptO {W W' : World} {p : Option Addr} {cs : List Value} {l : Nat} {o : Obj} (h : Row W p cs) (hg : W.grownBy W' (some l)) (hl : W.heap[l]? = some o) (ho : o.isCells = false) : Row W' p cs := by
  intro hcs
  obtain ⟨b, f, hp, hc⟩ := h hcs
  exact ⟨b, f, hp, fun i hi => cell_kept (hc i hi) hg (fun r e => by cases e; exact ⟨_, hl, ho⟩)⟩
theorem KeepsT.drew {T : Nat → Prop} (W : World) : KeepsT T W W.drew := ⟨rfl, rfl, rfl, Nat.le_refl _, fun _ _ _ => rfl⟩

/-- The blocks that a round must leave: what the iterator had, and what has been laid since the last round. -/
def more (T : Nat → Prop) (hs : Nat) (W : World) : Nat → Prop := fun k => T k ∨ (hs ≤ k ∧ k < W.heap.size)

/-- An iterator's contract: V: what is told of each value (by what has come, and how much lay at the last round's end); St: what the iterator does between two rounds; Mine: its blocks; S: all that comes; Sp: a part of it. -/
def SeqV {α : Type} (F : Fence) (n : Nat) (P : Program) (g : Nat) (lb : Array Value) (encs : α → Array Value) (V : List α → Nat → α → World → Prop) (St : World → World → Prop) (Mine : Nat → Prop) (S Sp : List α → Prop) (w : World) : Prop :=
  ∀ (l : Nat) (J : List α → (Nat → Prop) → Nat → World → Prop) (Jx : List α → World → Prop) (W : World), Below w.heap.size w W →
    (∀ pre T hs A B, J pre T hs A → St A B → J pre T hs B) → (∀ pre A B, Jx pre A → St A B → Jx pre B) →
    (∀ pre T hs x W1, J pre T hs W1 → V pre hs x W1 → YieldAt F (n - 1) P l (encs x) W1 fun e W' =>
      (e = .returned (.bool true) ∧ J (pre ++ [x]) (more T hs W1) W'.heap.size W' ∧ KeepsT (more T hs W1) W1 W') ∨ (e = .returned (.bool false) ∧ Jx (pre ++ [x]) W')) →
    J [] Mine W.heap.size W →
    CallsIn F n P g (#[.func (.yield l) #[] #[]] ++ lb) W fun e W' => (∃ v, e = .returned v) ∧ ((∃ xs T hs, S xs ∧ J xs T hs W') ∨ (∃ pre, Sp pre ∧ Jx pre W'))

/-- How a round's body may be left. -/
def roundV {α : Type} (B : Nat) (I : List α → (Nat → Prop) → Nat → World → Prop) (Ix : Code → List α → World → Prop) (xs : List α) (T : Nat → Prop) (W : World) : Exit → Act → World → Prop
  | .normal, _, W' => KeepsT (fun k => T k ∨ k = B ∨ k = B + 1) W W' ∧ I xs T W'.heap.size W'
  | .ret, _, W' => KeepsT (fun k => k = B ∨ k = B + 1) W W' ∧ Ix .ret xs W'
  | .exit id, _, W' => KeepsT (fun k => k = B ∨ k = B + 1) W W' ∧ Ix (.exit id) xs W'
  | .goto t, _, W' => KeepsT (fun k => k = B ∨ k = B + 1) W W' ∧ Ix (.goto t) xs W'
  | .panic _, _, _ => False
  | .outgrown, _, _ => False

variable {F : Fence} {n : Nat} {P : Program}

theorem wpIn_rangeFunc_V {α : Type} {g : Operand} {ps : Array Tmp} {assign body : Code} {Q : Exit → Act → World → Prop} {a : Act} {w : World}
    (hro : F.round = none) (h1 : 1 ≤ n) {gf : Nat} {lb : Array Value} (hg : a.eval g = .func (.func gf) #[] lb) (hFg : F.fn gf) (eg : ∀ args w, (callFunc gf args).run P w = .ok (.enter gf args) w)
    {encs : α → Array Value} {V : List α → Nat → α → World → Prop} {St : World → World → Prop} {Mine : Nat → Prop} {S Sp : List α → Prop} {w0 : World} (hseq : SeqV F (n - 1) P gf lb encs V St Mine S Sp w0)
    (hb0 : Below w0.heap.size w0 w) (hps : ∀ x, (encs x).size = ps.size) (hMine : ∀ k, Mine k → k < w.heap.size)
    (hSt : ∀ W W', St W W' → ∀ (k : Nat) (o : Obj), W.heap[k]? = some o → o.isCells = false → o.isWalk = false → W'.heap[k]? = some o)
    (hV : ∀ pre hs x W (l : Nat) (r : Loop) (o : Obj), V pre hs x W → W.heap[l]? = some (.loop r) → V pre hs x (W.putObj l o))
    (I : List α → (Nat → Prop) → Nat → World → Prop) (Ix : Code → List α → World → Prop)
    (hI : ∀ pre T hs W W', I pre T hs W → St W W' → I pre T hs W') (hIx : ∀ c pre W W', Ix c pre W → St W W' → Ix c pre W')
    (hIp : ∀ pre T hs W (r : Loop) (o : Obj), I pre T hs W → W.heap[w.heap.size + 1]? = some (.loop r) → I pre T hs (W.putObj (w.heap.size + 1) o))
    (hIxp : ∀ c pre W (r : Loop) (o : Obj), Ix c pre W → W.heap[w.heap.size + 1]? = some (.loop r) → Ix c pre (W.putObj (w.heap.size + 1) o))
    (h0 : ∀ r : Loop, I [] Mine (w.heap.size + 2) ((w.alloc (.deferred (some []))).alloc (.loop r))) (a₁ : α → Act)
    (hassign : ∀ (l : Nat) (x : α) (W : World) (K : Act → World → Prop), K (a₁ x) W →
      assign.wpIn (F.inRound l) (n - 1 - 1) P (Exit.then K (fun _ _ _ => False)) { tmps := (ps.zip (encs x)).foldl (fun t (p, v) => t.setIfInBounds p v) a.tmps, defers := [] } W)
    (hbody : ∀ (l : Nat) (pre : List α) (T : Nat → Prop) (hs : Nat) (x : α) (W : World), I pre T hs W → V pre hs x W → w.heap.size + 2 ≤ hs → w.heap.size + 2 ≤ W.heap.size → (∀ k, T k → k < w.heap.size ∨ w.heap.size + 2 ≤ k) →
      body.wpIn (F.inRound l) (n - 1 - 1) P (roundV w.heap.size I Ix (pre ++ [x]) (more T hs W) W) (a₁ x) W)
    (hdone : ∀ (xs : List α) (T : Nat → Prop) (hs : Nat) (W : World), S xs → I xs T hs W → W.heap[w.heap.size]? = some (.deferred (some [])) → Q .normal { a with defers := { target := .collected w.heap.size, args := #[] } :: a.defers } W)
    (hstop : ∀ (c : Code) (pre : List α) (W : World), Sp pre → Ix c pre W → W.heap[w.heap.size]? = some (.deferred (some [])) → c.wpIn F n P Q { a with defers := { target := .collected w.heap.size, args := #[] } :: a.defers } W) :
    (Code.rangeFunc g ps assign body).wpIn F n P Q a w := by
  refine wpIn_rangeFunc ?_
  intro fn hfn
  rw [hro]
  obtain ⟨rec, hrec⟩ : ∃ rec : LoopState → Option Code → Loop, rec = fun st pe => { state := st, pending := pe, fn, tmps := a.tmps, params := ps, assign, body, defers := w.heap.size } := ⟨_, rfl⟩
  obtain ⟨W1, hW1⟩ : ∃ W1, (w.alloc (.deferred (some []))).alloc (.loop (rec .ready none)) = W1 := ⟨_, rfl⟩
  have hL1 : W1.heap[w.heap.size + 1]? = some (.loop (rec .ready none)) := by
    rw [← hW1]; have := World.alloc_heap_new (w.alloc (.deferred (some []))) (.loop (rec .ready none)); rwa [World.size_alloc] at this
  have hK1 : W1.heap[w.heap.size]? = some (.deferred (some [])) := by
    rw [← hW1]; exact (Below.heap_alloc _ _ _ (by simp)).trans (World.alloc_heap_new w _)
  have hs1 : W1.heap.size = w.heap.size + 2 := by rw [← hW1]; simp
  have hI1 : I [] Mine W1.heap.size W1 := by rw [hs1, ← hW1]; exact h0 _
  have hb1 : Below w0.heap.size w0 W1 := by
    rw [← hW1]; exact hb0.trans ((((Below.refl _ w).alloc (Nat.le_refl _) _).alloc (by simp) _).mono hb0.size)
  refine ⟨w.heap.size + 1, [{ target := .collected w.heap.size, args := #[] }], W1, { target := .fn (.func gf) lb, args := #[.func (.yield (w.heap.size + 1)) #[] #[]] }, W1, gf,
    #[.func (.yield (w.heap.size + 1)) #[] #[]] ++ lb, W1, ?_, ?_, ?_, ?_, fun _ => h1, ?_⟩
  · rw [← hW1, hrec]; exact run_enterLoop_outer _ _ _ _ _
  · simp only [resolve, hg]
    simp [go_sem]
  · intro f' hf'; simp [Target.leads] at hf'; subst hf'; exact hFg
  · simp [invoke, go_sem, eg]
  · refine (hseq (w.heap.size + 1)
      (fun pre T hs W => I pre T hs W ∧ W.heap[w.heap.size + 1]? = some (.loop (rec .ready none)) ∧ W.heap[w.heap.size]? = some (.deferred (some [])) ∧ w.heap.size + 2 ≤ hs ∧ ∀ k, T k → k < w.heap.size ∨ w.heap.size + 2 ≤ k)
      (fun pre W => ∃ c, Ix c pre W ∧ W.heap[w.heap.size + 1]? = some (.loop (rec .done (some c))) ∧ W.heap[w.heap.size]? = some (.deferred (some [])))
      W1 hb1
      (fun pre T hs A B hs' hst => ⟨hI _ _ _ _ _ hs'.1 hst, hSt _ _ hst _ _ hs'.2.1 rfl rfl, hSt _ _ hst _ _ hs'.2.2.1 rfl rfl, hs'.2.2.2.1, hs'.2.2.2.2⟩)
      (fun pre A B hs' hst => by
        obtain ⟨c, hc, hl, hk⟩ := hs'
        exact ⟨c, hIx _ _ _ _ hc hst, hSt _ _ hst _ _ hl rfl rfl, hSt _ _ hst _ _ hk rfl rfl⟩)
      ?_ ⟨hI1, hL1, hK1, by omega, fun k hk => .inl (hMine k hk)⟩).mono ?_
    · -- ONE ROUND
      rintro pre T hs x W ⟨hi, hl, hk, hhs, hT⟩ hv
      have hlt : w.heap.size + 1 < W.heap.size := (Array.getElem?_eq_some_iff.1 hl).1
      have hy := run_yield (P := P) (args := encs x) hl (by rw [hrec]; exact hps x)
      rw [hrec] at hy
      refine ⟨fn, _, assign, body, hy, roundIn_of_wpIn hfn (hassign _ x W _ ⟨_, run_beginRound hl (by rw [hrec]), ?_⟩)⟩
      have hl2 : (W.putObj (w.heap.size + 1) (.loop { rec .ready none with state := .busy })).heap[w.heap.size + 1]? = some (.loop { rec .ready none with state := .busy }) := World.putObj_heap_same hlt
      have hk2 : (W.putObj (w.heap.size + 1) (.loop { rec .ready none with state := .busy })).heap[w.heap.size]? = some (.deferred (some [])) := (World.putObj_heap_other (by omega)).trans hk
      have hmore : more T hs (W.putObj (w.heap.size + 1) (.loop { rec .ready none with state := .busy })) = more T hs W := by unfold more; rw [World.putObj_size]
      have hnot : ¬ more T hs W (w.heap.size + 1) := by
        rintro (h | h)
        · have := hT _ h; omega
        · omega
      have hT' : ∀ k, more T hs W k → k < w.heap.size ∨ w.heap.size + 2 ≤ k := by
        rintro k (h | h)
        · exact hT k h
        · right; omega
      have hb := hbody (w.heap.size + 1) pre T hs x _ (hIp _ _ _ _ _ (.loop { rec .ready none with state := .busy }) hi hl) (hV _ _ _ _ _ _ (.loop { rec .ready none with state := .busy }) hv hl) hhs (by simp; omega) hT
      rw [hmore] at hb
      refine wpIn_mono hb ?_
      have fin : ∀ (jump : Option Code) (W3 : World), KeepsT (fun k => k = w.heap.size ∨ k = w.heap.size + 1) (W.putObj (w.heap.size + 1) (.loop { rec .ready none with state := .busy })) W3 →
          (Instr.endRound (w.heap.size + 1) jump).run P W3 = .ok (.bool jump.isNone) (W3.putObj (w.heap.size + 1) (.loop (rec (if jump.isNone then .ready else .done) jump))) ∧
          W3.heap[w.heap.size + 1]? = some (.loop { rec .ready none with state := .busy }) ∧
          (W3.putObj (w.heap.size + 1) (.loop (rec (if jump.isNone then .ready else .done) jump))).heap[w.heap.size + 1]? = some (.loop (rec (if jump.isNone then .ready else .done) jump)) ∧
          (W3.putObj (w.heap.size + 1) (.loop (rec (if jump.isNone then .ready else .done) jump))).heap[w.heap.size]? = some (.deferred (some [])) := fun jump W3 hk3 => by
        have hl3 := (hk3.same (w.heap.size + 1) (.inr rfl) (by simp; omega)).trans hl2
        have := run_endRound (P := P) jump hl3
        rw [hrec] at this ⊢
        exact ⟨this, by rw [hrec] at hl3; exact hl3, World.putObj_heap_same (Array.getElem?_eq_some_iff.1 hl3).1, (World.putObj_heap_other (by omega)).trans ((hk3.same w.heap.size (.inl rfl) (by simp; omega)).trans hk2)⟩
      rintro e a3 W3 hp
      cases e with
      | normal =>
        obtain ⟨hk3, hi3⟩ := hp
        obtain ⟨hr, hl3, hl4, hk4⟩ := fin none W3 (hk3.mono (fun k hk => .inr hk))
        refine ⟨_, _, hr, .inl ⟨rfl, ⟨?_, hl4, hk4, ?_, hT'⟩, ?_⟩⟩
        · simp only [World.putObj_size]; exact hIp _ _ _ _ _ _ hi3 hl3
        · have h1 := hk3.size; simp at h1; simp; omega
        · exact ((KeepsT.putObj W _ _ hnot).trans (hk3.mono (fun k hk => .inl hk))).trans (KeepsT.putObj W3 _ _ hnot)
      | ret =>
        obtain ⟨hk3, hi3⟩ := hp
        obtain ⟨hr, hl3, hl4, hk4⟩ := fin (some .ret) W3 hk3
        exact ⟨_, _, hr, .inr ⟨rfl, .ret, hIxp _ _ _ _ _ hi3 hl3, hl4, hk4⟩⟩
      | exit id =>
        obtain ⟨hk3, hi3⟩ := hp
        obtain ⟨hr, hl3, hl4, hk4⟩ := fin (some (.exit id)) W3 hk3
        exact ⟨_, _, hr, .inr ⟨rfl, .exit id, hIxp _ _ _ _ _ hi3 hl3, hl4, hk4⟩⟩
      | goto t =>
        obtain ⟨hk3, hi3⟩ := hp
        obtain ⟨hr, hl3, hl4, hk4⟩ := fin (some (.goto t)) W3 hk3
        exact ⟨_, _, hr, .inr ⟨rfl, .goto t, hIxp _ _ _ _ _ hi3 hl3, hl4, hk4⟩⟩
      | panic ch => exact hp.elim
      | outgrown => exact hp.elim
    · -- BEHIND THE ITERATOR
      rintro e W2 ⟨⟨v, rfl⟩, (⟨xs, T, hs, hS, hi, hl, hk, _, _⟩ | ⟨pre, hSp, c, hi, hl, hk⟩)⟩
      · exact ⟨none, _, by have := run_endLoop (P := P) hl (by rw [hrec]; simp); rw [hrec] at this; exact this, hdone xs T hs _ hS (hIp _ _ _ _ _ _ hi hl) ((World.putObj_heap_other (by omega)).trans hk)⟩
      · exact ⟨some c, _, by have := run_endLoop (P := P) hl (by rw [hrec]; simp); rw [hrec] at this; exact this, hstop c pre _ hSp (hIxp _ _ _ _ _ hi hl) ((World.putObj_heap_other (by omega)).trans hk)⟩

end Go.Proofs.Ytabkmdhkfbcldaa
namespace Go.Proofs.Ytabkmdhkfbcldaa
open Go.RowKit
attribute [local go_sem] Oper.semAt_some
attribute [local go_sem] wide_fnS wide_depthS
variable {w w' W : World} {base t : Nat} {K : Wk} {S : Sh} {B : TB}

theorem EStr : Elem Try.prog 98 9 1 16 (.string .empty) := Elem.mk' Try.underlying98 (by kernel_rfl) rfl (by decide)
/-- What All's function has: the names and the values. -/
structure AllIs (n0 : Nat) (m : List (ByteArray × Int)) (names : List ByteArray) (p : Option Addr) (c bm : Nat) (W : World) : Prop where
  v : W.heap[n0]? = some (.cells #[.slice p names.length c] 98 (0, 0))
  row : Row W p (names.map Value.string)
  lt : ∀ q, p = some q → q.block < W.heap.size
  c : names.length ≤ c ∧ c ≤ maxLen
  mv : W.heap[n0 + 2]? = some (.cells #[.map (some bm)] 57 (0, 0))
  map : MapIs Value.string (Value.int .i64) W bm m
theorem AllIs.below {n0 : Nat} {m : List (ByteArray × Int)} {names : List ByteArray} {p : Option Addr} {c bm : Nat} (h : AllIs n0 m names p c bm w) (hb : Below w.heap.size w w') : AllIs n0 m names p c bm w' :=
  ⟨(hb.block _ (Array.getElem?_eq_some_iff.1 h.v).1).trans h.v, h.row.below hb, fun q hq => Nat.lt_of_lt_of_le (h.lt q hq) hb.size, h.c, (hb.block _ (Array.getElem?_eq_some_iff.1 h.mv).1).trans h.mv, h.map.below hb h.map.lt⟩
def AllTell (m : List (ByteArray × Int)) (w : World) (e : Ending) (w' : World) : Prop :=
  ∃ xs p c bm, e = .returned (.func (.func 50) #[] #[.pointer (some ⟨w.heap.size, 0, none⟩), .pointer (some ⟨w.heap.size + 2, 0, none⟩)]) ∧ xs.Perm (m.map Prod.fst) ∧ AllIs w.heap.size m (sortN xs) p c bm w' ∧ Below w.heap.size w w'
/-- What the loop over the keys holds. -/
structure AllI (w : World) (bm : Nat) (m : List (ByteArray × Int)) (pre : List ByteArray) (W : World) : Prop where
  v : ∃ v, W.heap[w.heap.size]? = some (.cells #[v] 98 (0, 0)) ∧ W.ownsRow w.heap.size 9 1 v pre.length (pre.map Value.string)
  mv : W.heap[w.heap.size + 2]? = some (.cells #[.map (some bm)] 57 (0, 0))
  map : MapIs Value.string (Value.int .i64) W bm m
  b : Below w.heap.size w W
theorem AllI.kept {bm N : Nat} {m : List (ByteArray × Int)} {pre : List ByteArray} (h : AllI w bm m pre W) (hN : w.heap.size + 2 < N) (hbm : bm < N) {row : Option Nat} (hg : W.grownBy w' row) (hr : ∀ r, row = some r → N ≤ r ∧ ∃ o : Obj, W.heap[r]? = some o ∧ o.isCells = false) : AllI w bm m pre w' := by
  obtain ⟨v, h1, h2⟩ := h.v
  have hv : w'.heap[w.heap.size]? = W.heap[w.heap.size]? := hg.block _ (Array.getElem?_eq_some_iff.1 h1).1 (fun e => by have := (hr _ e.symm).1; omega)
  refine ⟨⟨v, hv.trans h1, ?_⟩, (hg.block _ (Array.getElem?_eq_some_iff.1 h.mv).1 (fun e => by have := (hr _ e.symm).1; omega)).trans h.mv, h.map.kept hg (fun e => by have := (hr _ e.symm).1; omega), h.b.grown hg h.b.size (fun r e => by have := (hr r e).1; omega)⟩
  cases row with
  | none => exact h2.kept hg (by cases v.ownBlock <;> simp)
  | some r =>
    obtain ⟨o, ho, hc⟩ := (hr r rfl).2
    exact own_keptO h2 hg ho hc
/-- One name more. -/
theorem AllI.push {bm bx N : Nat} {m : List (ByteArray × Int)} {pre : List ByteArray} (h : AllI w bm m pre W) (hbx : W.heap[bx]? = some (.cells #[.map (some bm)] 57 (0, 0))) (hN : w.heap.size < N) (hbs : bx ≠ w.heap.size) (hms : bm ≠ w.heap.size) {v v' : Value} (hv : W.heap[w.heap.size]? = some (.cells #[v] 98 (0, 0))) (hvo : W.ownsRow w.heap.size 9 1 v pre.length (pre.map Value.string)) {o : Obj} {w2 : World} (x : ByteArray)
    (ho : w2.ownsRow w.heap.size 9 1 v' (pre.length + 1) (pre.map Value.string ++ [.string x])) (hg : (W.alloc o).grownBy w2 v.ownBlock) :
    KeepsFrom N W (w2.setCell ⟨w.heap.size, 0, none⟩ v') ∧ KpM bx bm W (w2.setCell ⟨w.heap.size, 0, none⟩ v') ∧ AllI w bm m (pre ++ [x]) (w2.setCell ⟨w.heap.size, 0, none⟩ v') := by
  have k2 : ∀ b, b < W.heap.size → v.ownBlock ≠ some b → w2.heap[b]? = W.heap[b]? := fun b hb hne => (hg.block b (by simp; omega) (fun e => hne e.symm)).trans (Below.heap_alloc W o b hb)
  have hvl := (Array.getElem?_eq_some_iff.1 hv).1
  have tv : tagAt W w.heap.size = some (98 + 1) := by unfold tagAt; rw [hv]; rfl
  have tne : ∀ b x, tagAt W b = some x → x ≠ 9 + 1 → v.ownBlock ≠ some b := fun b x hx hn e => tag_ne (own_tag hvo e) hx (Ne.symm hn) rfl
  have hv2 : w2.heap[w.heap.size]? = some (.cells #[v] 98 (0, 0)) := (k2 _ hvl (tne _ _ tv (by decide))).trans hv
  have hx2 : w2.heap[bx]? = W.heap[bx]? := k2 _ (Array.getElem?_eq_some_iff.1 hbx).1 (tne bx (57 + 1) (by unfold tagAt; rw [hbx]; rfl) (by decide))
  have hm2 : w2.heap[bm]? = W.heap[bm]? := k2 _ h.map.lt (tne bm 0 (map_tag h.map) (by decide))
  have hmm : w2.heap[w.heap.size + 2]? = some (.cells #[.map (some bm)] 57 (0, 0)) := (k2 _ (Array.getElem?_eq_some_iff.1 h.mv).1 (tne _ (57 + 1) (by unfold tagAt; rw [h.mv]; rfl) (by decide))).trans h.mv
  have hv'n : ∀ g, v'.ownBlock = some g → g ≠ w.heap.size := fun g hgg => tag_ne (own_tag ho hgg) (by unfold tagAt; rw [hv2]; rfl) (show 9 + 1 ≠ 98 + 1 by decide)
  have hb2 : Below w.heap.size w w2 := (h.b.alloc h.b.size o).grown hg (by have := h.b.size; simp; omega) (fun r e => own_ge hvo r e)
  refine ⟨⟨by have h1 := hg.size; simp at h1 ⊢; omega, fun k ob hk hko hc => ?_⟩, ⟨(heap_setCell_other _ _ _ _ hbs).trans hx2, (heap_setCell_other _ _ _ _ hms).trans hm2⟩, ⟨⟨v', heap_setCell_same _ _ 0 _ _ _ hv2, ?_⟩, (heap_setCell_other _ _ _ _ (by simp)).trans hmm, ?_, hb2.setCell (Nat.le_refl _) _⟩⟩
  · rw [heap_setCell_other _ _ _ _ (show k ≠ w.heap.size by omega), k2 k (Array.getElem?_eq_some_iff.1 hko).1 (fun e => ?_)]
    · exact hko
    · rcases hvo.2 with ⟨h0, _⟩ | ⟨g, cap, cur, h0, _, hgg, _⟩
      · rw [h0] at e; cases e
      · rw [h0] at e
        have e : g = k := by simpa [Value.ownBlock] using e
        subst e
        rw [hgg] at hko
        cases hko
        simp [Obj.isCells] at hc
  · rw [List.length_append, List.map_append]
    exact own_setO ho _ _ hv'n
  · obtain ⟨es, c, he, F⟩ := h.map
    exact ⟨es, c, ((heap_setCell_other _ _ _ _ hms).trans hm2).trans he, F⟩
end Go.Proofs.Ytabkmdhkfbcldaa
