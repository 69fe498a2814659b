/-
  All of the code's table: the walk.
  The function that All hands back: what it yields.
  told: the names that are told, and their values, at most so many.
-/
import Derived.Test.YtabkmdhkfbcldaaJI3
import Derived.Test.YtabkmdhkfbcldaaJH1
namespace Go.Proofs.Ytabkmdhkfbcldaa
open Go.RowKit
attribute [local go_sem] Oper.semAt_some
attribute [local go_sem] wide_fnS wide_depthS
variable {w w' W : World} {base t : Nat} {K : Wk} {S : Sh} {B : TB}

theorem sortO_any {pv : Option Addr} {cv : Nat} (xs : List ByteArray) (W : World) (hl : xs.length ≤ 1000000) (ho : W.ownsRow base 9 1 (.slice pv xs.length cv) xs.length (xs.map Value.string)) :
    Calls Try.prog 49 #[.slice pv xs.length cv] W fun e w' => e = .returned (.tuple #[]) ∧ Row w' pv ((sortN xs).map Value.string) ∧ W.grownBy w' (Value.slice pv xs.length cv).ownBlock := by
  obtain ⟨p', c', he, hr⟩ := own_shape ho
  injection he with he1 _ he2
  subst he1
  cases pv with
  | none =>
    have hx0 : xs = [] := by
      apply Classical.byContradiction
      intro hne
      obtain ⟨b, o, e, _⟩ := hr (by simpa using hne)
      cases e
    subst hx0
    exact (Try.slices_Sort_string_none none cv W).mono fun e w' ⟨h1, h2⟩ => ⟨h1, by have e0 : sortN [] = [] := List.Perm.eq_nil (sortN_perm []); rw [e0]; exact Row.nil _ _, by subst h2; exact World.grownBy.refl _ _⟩
  | some a =>
    rcases ho.2 with ⟨h0, _⟩ | ⟨g, cap, cur, h0, hgg, hgh, _⟩
    · cases h0
    · injection h0 with h1 _ h2
      injection h1 with h1
      subst h1
      exact (sort_any g cv xs W hl hr (Array.getElem?_eq_some_iff.1 hgh).1 (fun j => frozen_of_row _ _ _ _ _ hgh)).mono fun e w' ⟨h1, h2, h3⟩ => ⟨h1, h2, h3⟩
set_option maxRecDepth 20000 in
set_option maxHeartbeats 2000000 in
theorem all_any (h : TabIs W base t K S B) (hlen : B.vm.length ≤ 1000000) : Calls Try.prog 31 #[.pointer (some ⟨t, 0, none⟩)] W (AllTell B.vm W) := by
  obtain ⟨W0, hW0⟩ : ∃ W0, W0 = ((W.alloc (.cells #[.slice none 0 0] 98)).alloc (.map #[] 0)).alloc (.cells #[.map (some (W.heap.size + 1))] 57) := ⟨_, rfl⟩
  have hz0 : W0.heap.size = W.heap.size + 3 := by rw [hW0]; simp
  have hb0 : Below W.heap.size W W0 := by rw [hW0]; exact (((Below.refl _ _).alloc (Nat.le_refl _) _).alloc (by simp) _).alloc (by simp; omega) _
  have hH := (h.below hb0).head
  have d5 : W0.cell? ⟨t, 5, none⟩ = some (.map (some B.bv)) := cell_of_row _ _ 5 _ _ _ hH
  have hV0 : W0.heap[W.heap.size]? = some (.cells #[.slice none 0 0] 98 (0, 0)) := by
    rw [hW0]; exact (Below.heap_alloc _ _ _ (by simp; omega)).trans ((Below.heap_alloc _ _ _ (by simp)).trans (heap_alloc_new W _))
  have hM0 : W0.heap[W.heap.size + 2]? = some (.cells #[.map (some (W.heap.size + 1))] 57 (0, 0)) := by
    rw [hW0]; exact heap_newAt _ _ _ (by simp)
  have HC := hid (mclone_any B.bv B.vm W0 ((h.below hb0).vals))
  have hmm := @run_makeMap Try.prog
  refine callsIn_wide.1 (?_ : CallsIn Fence.wide 9 Try.prog 31 #[.pointer (some ⟨t, 0, none⟩)] W _)
  refine callsIn_of_wp_marks Try.func31 rfl (show Fence.wide.fn 31 from trivial) ?_ rfl
  simp only [Try.ntmps31, List.size_toArray, List.length_cons, List.length_nil, Nat.reduceAdd, Nat.reduceSub, Array.replicate_succ, Array.replicate_zero, List.push_toArray, List.append_toArray, List.nil_append, List.cons_append]
  gi_upto_region 4 with fail
  rw [← hW0]
  have HB0 := hid hb0
  have HV0 := hid hV0
  have HM0 := hid hM0
  have hlt2 : W.heap.size + 2 < W0.heap.size := by omega
  clear hW0 hb0 hV0 hM0 hmm h hH
  gi_wp2_with (first
    | (gi_at_call 47; (refine (callsIn_wide.2 HC.out).mono ?_); rintro e w2 ⟨rfl, hm2, hz2, hb2⟩; have HM2 := hid hm2; have HB2 := hid hb2; have hbx2 := (hb2.block (W.heap.size + 2) hlt2).trans HM0.out; have y2 : w2.cell? ⟨W.heap.size + 2, 0, none⟩ = some (.map (some (W.heap.size + 1))) := cell_of_row _ _ 0 _ _ _ hbx2; have yf2 := frozen_of_row _ _ 0 _ _ hbx2; have HX2 := hid hbx2; clear hm2 hb2 hbx2)
    | (gi_at_call 48; (refine (callsIn_wide.2 (keys_any _ _)).mono ?_); rintro e w3 ⟨rfl, hw3⟩; rw [hw3]; clear hw3))
  obtain ⟨W3, hW3⟩ : ∃ W3, W3 = (w2.setCell ⟨W.heap.size + 1 + 1, 0, none⟩ (.map (some (W.heap.size + 3)))).alloc (.cells #[.map (some (W.heap.size + 3))] 57) := ⟨_, rfl⟩
  rw [← hW3]
  have hz22 : w2.heap.size = W.heap.size + 3 + 1 := by omega
  have hbs : Below W.heap.size W w2 := HB0.out.trans (HB2.out.mono HB0.out.size)
  have hz3 : W3.heap.size = W.heap.size + 3 + 1 + 1 := by rw [hW3]; simp; omega
  have ks : ∀ b, b < w2.heap.size → b ≠ W.heap.size + 2 → W3.heap[b]? = w2.heap[b]? := fun b hb hne => by
    rw [hW3, Below.heap_alloc _ _ _ (by simp; exact hb), heap_setCell_other _ _ _ _ hne]
  have hI0 : AllI W (W.heap.size + 3) B.vm [] W3 := by
    refine ⟨⟨.slice none 0 0, ?_, World.ownsRow_nil _ _ _ _⟩, ?_, ?_, ?_⟩
    · rw [ks _ (by omega) (by omega)]; exact (HB2.out.block _ (by omega)).trans HV0.out
    · rw [hW3, Below.heap_alloc _ _ _ (by simp; omega)]
      exact heap_setCell_same _ _ 0 _ _ _ HX2.out
    · have hm := HM2.out
      obtain ⟨es, cl, he, F⟩ := hm
      refine ⟨es, cl, (ks _ (by omega) (by omega)).trans ?_, F⟩
      rw [← hz0]; exact he
    · rw [hW3]; exact (hbs.setCell (by show W.heap.size ≤ W.heap.size + 1 + 1; omega) _).alloc (by simp; omega) _
  have hbx3 : W3.heap[W.heap.size + 3 + 1]? = some (.cells #[.map (some (W.heap.size + 3))] 57 (0, 0)) := by rw [hW3]; exact heap_newAt _ _ _ (by simp; omega)
  have hseq := keys1_seq 8 (by omega) (W.heap.size + 3 + 1) (W.heap.size + 3) B.vm W3 hbx3 hI0.map
  have HI0 := hid hI0
  have HBX3 := hid hbx3
  have HLEN := hid hlen
  clear hW3 ks hbx3 y2 yf2 d5 hI0 hlen
  refine wpIn_rangeFunc_O rfl (by omega) (gf := 60) (lb := #[.pointer (some ⟨W.heap.size + 3 + 1, 0, none⟩)]) rfl trivial (enters_of Try.func60 (by kernel_rfl) rfl) hseq
    (fun h k => ⟨k.1.trans h.1, k.2.trans h.2⟩) (fun A l o o' hl h1 h2 h3 => ⟨World.putObj_heap_other (by omega), World.putObj_heap_other (by omega)⟩) (Below.refl _ _) (fun _ => rfl)
    (fun pre W' => AllI W (W.heap.size + 3) B.vm pre W' ∧ W'.heap[W.heap.size + 3 + 1]? = some (.cells #[.map (some (W.heap.size + 3))] 57 (0, 0))) (fun _ _ _ => False)
    (fun s A C row hs hg hr => ⟨hs.1.kept (N := W3.heap.size) (by omega) (by omega) hg hr, (hg.block _ (Array.getElem?_eq_some_iff.1 hs.2).1 (fun e => by have := (hr _ e.symm).1; omega)).trans hs.2⟩)
    (fun c s A C row hs hg hr => hs)
    ⟨HI0.out, HBX3.out⟩
    ?act ?assign ?body ?done ?stop
  case assign =>
    intro l x W4 K hK
    simp only [encK]
    gi_wp2
    exact hK
  case body =>
    rintro l' pre x W4 ⟨hi, hx⟩ hpl
    have HI := hid hi
    have HX := hid hx
    obtain ⟨v, hv, hvo⟩ := hi.v
    obtain ⟨pv, cv, rfl, -⟩ := own_shape hvo
    have HV := hid hv
    have HVO := hid hvo
    have g0 : W4.cell? ⟨W.heap.size, 0, none⟩ = some (.slice pv pre.length cv) := cell_of_row _ _ 0 _ _ _ hv
    have hlt4 : W.heap.size < W4.heap.size := (Array.getElem?_eq_some_iff.1 hv).1
    have HPL := hid hpl
    have HPU : Hid (∀ (o : Obj) (w5 : World) (v' : Value), w5.ownsRow W.heap.size 9 1 v' (pre.length + 1) (pre.map Value.string ++ [.string x]) → (W4.alloc o).grownBy w5 (Value.slice pv pre.length cv).ownBlock → KeepsFrom W3.heap.size W4 (w5.setCell ⟨W.heap.size, 0, none⟩ v') ∧ KpM (W.heap.size + 3 + 1) (W.heap.size + 3) W4 (w5.setCell ⟨W.heap.size, 0, none⟩ v') ∧ AllI W (W.heap.size + 3) B.vm (pre ++ [x]) (w5.setCell ⟨W.heap.size, 0, none⟩ v')) := fun o w5 v' ho hg => AllI.push (N := W3.heap.size) HI.out HX.out (by omega) (by omega) (by omega) HV.out HVO.out x ho hg
    have HKC : Hid (∀ (o : Obj) (w5 : World), (W4.alloc o).grownBy w5 (Value.slice pv pre.length cv).ownBlock → w5.cell? ⟨W.heap.size, 0, none⟩ = some (.slice pv pre.length cv) ∧ w5.frozen? ⟨W.heap.size, 0, none⟩ = false) := fun o w5 hg => by
      have e : w5.heap[W.heap.size]? = some (.cells #[.slice pv pre.length cv] 98 (0, 0)) := ((hg.block _ (by simp; omega) (fun e => tag_ne (own_tag HVO.out e.symm) (show tagAt W4 W.heap.size = some (98 + 1) by unfold tagAt; rw [HV.out]; rfl) (by decide) rfl)).trans (Below.heap_alloc W4 o _ hlt4)).trans HV.out
      exact ⟨cell_of_row _ _ 0 _ _ _ e, frozen_of_row _ _ 0 _ _ e⟩
    clear hi hx hv hvo hpl hseq
    gi_wp2_with ((with_reducible show wpListIn _ _ _ _ _ (⟨some 20, _, _, _, _, _⟩ :: _) _ _); go_loud (refine wpListIn_app EStr rfl (.tmp 17) (.tmp 19) rfl W.heap.size (.slice pv pre.length cv) pre.length (pre.map Value.string) rfl (HVO.out.alloc _) _ 1 1 [.string x] rfl rfl (by intro h; cases h) (row_newAt _ _ _ _ rfl) (by intro u hu; simp at hu; subst hu; rfl) (by unfold maxLen; have := HPL.out; have := HLEN.out; omega) (by have := HPL.out; have := HLEN.out; omega) (by have := HI.out.b.size; simp; omega) ?_); intro v5 w5 ho5 hg5 hs5; obtain ⟨q5, c5, rfl, -⟩ := own_shape ho5; have HO5 := hid ho5; have HG5 := hid hg5; obtain ⟨y0, yf⟩ := HKC.out _ _ hg5; clear ho5 hg5 hs5)
    obtain ⟨r1, r2, r3⟩ := HPU.out _ _ _ HO5.out HG5.out
    exact ⟨r1, r2, r3, r2.1.trans HX.out⟩
  case done =>
    rintro xs W4 hxs ⟨hi, hx⟩ hD
    have hxl : xs.length ≤ 1000000 := by have := hxs.length_eq; have := HLEN.out; simp at *; omega
    have HXS := hid hxs
    obtain ⟨v, hv, hvo⟩ := hi.v
    have g0 := cell_of_row _ _ 0 _ _ _ hv
    have HV := hid hv
    have HI := hid hi
    obtain ⟨pv, cv, hve, hvr⟩ := own_shape hvo
    subst hve
    have g0' : W4.cell? ⟨W.heap.size, 0, none⟩ = some (.slice pv xs.length cv) := g0
    have hvb := own_row hvo
    have hnc := own_nilcap hvo
    have HVO := hid hvo
    have HD := hid hD
    have hvl : W.heap.size < W4.heap.size := (Array.getElem?_eq_some_iff.1 hv).1
    have HSO := hid (sortO_any xs W4 hxl hvo)
    clear hv hvo g0 hvr hi hx hD hxs hseq
    gi_wp2_with (gi_at_call 49; (refine (callsIn_wide.2 HSO.out).mono ?_); rintro e w5 ⟨rfl, hr5, hg5⟩; have HR5 := hid hr5; have HG5 := hid hg5; clear hr5 hg5)
    have k5 : ∀ b x, W4.heap[b]? = some x → tagO x ≠ 9 + 1 → w5.heap[b]? = some x := fun b x hx hn => (HG5.out.block b (Array.getElem?_eq_some_iff.1 hx).1 (fun e => tag_ne (own_tag HVO.out e.symm) (show tagAt W4 b = some (tagO x) by unfold tagAt; rw [hx]; rfl) (fun e => hn e.symm) rfl)).trans hx
    have hD5 : w5.heap[W.heap.size + 3 + 1 + 1]? = some (.deferred (some [])) := k5 _ _ (by rw [← hz3]; exact HD.out) (by decide)
    refine ⟨by simp, .inl ⟨_, _, rfl, run_takeDeferred hD5, ?_⟩⟩
    have hg6 := grownBy_putObj' w5 (W.heap.size + 3 + 1 + 1) (.deferred none)
    have k6 : ∀ b, b ≠ W.heap.size + 3 + 1 + 1 → (w5.putObj (W.heap.size + 3 + 1 + 1) (.deferred none)).heap[b]? = w5.heap[b]? := fun b hb => World.putObj_heap_other (by omega)
    have hsl : (sortN xs).length = xs.length := (sortN_perm xs).length_eq
    obtain ⟨p', c', he', hc1, hc2, _, _, _⟩ := hvb
    injection he' with e1 _ e2
    subst e1 e2
    refine ⟨.func (.func 50) #[] #[.pointer (some ⟨W.heap.size, 0, none⟩), .pointer (some ⟨W.heap.size + 2, 0, none⟩)], by simp [results, Try.results31, go_sem], xs, pv, cv, W.heap.size + 3, rfl, HXS.out, ⟨?_, HR5.out.keptO hg6 hD5 rfl, fun q hq => ?_, by rw [hsl]; exact ⟨hc1, hc2⟩, ?_, ?_⟩, ?_⟩
    · rw [k6 _ (by omega), hsl]
      exact k5 _ _ HV.out (by show 98 + 1 ≠ 9 + 1; decide)
    · have h1 := own_lt HVO.out q.block (by subst hq; rfl)
      have h2 := HG5.out.size
      simp; omega
    · rw [k6 _ (by omega)]
      exact k5 _ _ HI.out.mv (by show 57 + 1 ≠ 9 + 1; decide)
    · obtain ⟨es, cl, he, F⟩ := HI.out.map
      exact ⟨es, cl, (k6 _ (by omega)).trans (k5 _ _ he (by show (0 : Nat) ≠ 9 + 1; decide)), F⟩
    · exact Below.putObjB (HI.out.b.grown HG5.out HI.out.b.size (fun r e => own_ge HVO.out r e)) (by have h1 := HI.out.b.size; have h2 := HG5.out.size; omega) (by omega) _
  case stop =>
    rintro c pre W4 hpre hf
    exact hf.elim
end Go.Proofs.Ytabkmdhkfbcldaa
namespace Go.Proofs.Ytabkmdhkfbcldaa
open Go.RowKit
attribute [local go_sem] Oper.semAt_some
attribute [local go_sem] wide_fnS wide_depthS
variable {w w' W : World}

def encP (y : ByteArray × Int) : Array Value := #[.string y.1, .int .i64 y.2]
def pairOf (m : List (ByteArray × Int)) (s : ByteArray) : ByteArray × Int := (s, (alook m s).getD 0)
def KpL (n0 bm : Nat) (p : Option Addr) (A B : World) : Prop := B.heap[n0]? = A.heap[n0]? ∧ B.heap[n0 + 2]? = A.heap[n0 + 2]? ∧ B.heap[bm]? = A.heap[bm]? ∧ (∀ q, p = some q → B.heap[q.block]? = A.heap[q.block]?) ∧ A.heap.size ≤ B.heap.size
theorem KpL.trans {n0 bm : Nat} {p : Option Addr} {A B C : World} (h : KpL n0 bm p A B) (k : KpL n0 bm p B C) : KpL n0 bm p A C :=
  ⟨k.1.trans h.1, k.2.1.trans h.2.1, k.2.2.1.trans h.2.2.1, fun q hq => (k.2.2.2.1 q hq).trans (h.2.2.2.1 q hq), Nat.le_trans h.2.2.2.2 k.2.2.2.2⟩
theorem AllIs.kept {n0 bm : Nat} {m : List (ByteArray × Int)} {names : List ByteArray} {p : Option Addr} {c : Nat} (h : AllIs n0 m names p c bm w) (k : KpL n0 bm p w w') : AllIs n0 m names p c bm w' := by
  refine ⟨k.1.trans h.v, row_blk h.row k.2.2.2.1, fun q hq => Nat.lt_of_lt_of_le (h.lt q hq) k.2.2.2.2, h.c, k.2.1.trans h.mv, ?_⟩
  obtain ⟨es, cl, he, F⟩ := h.map
  exact ⟨es, cl, k.2.2.1.trans he, F⟩
set_option maxHeartbeats 2000000 in
theorem all2_seq (n : Nat) (hn : 1 ≤ n) {n0 bm c : Nat} {m : List (ByteArray × Int)} {names : List ByteArray} {p : Option Addr} (h : AllIs n0 m names p c bm w) (hlen : names.length ≤ 1000000) :
    SeqO Fence.wide n Try.prog 50 #[.pointer (some ⟨n0, 0, none⟩), .pointer (some ⟨n0 + 2, 0, none⟩)] encP (KpL n0 bm p) (fun xs => xs = names.map (pairOf m)) (fun pre => ∃ suf, pre ++ suf = names.map (pairOf m)) names.length w := by
  intro l J Jx W hW hJ hJx hY h0
  have hA := h.below hW
  have HA0 := hid hA
  have c0 : W.cell? ⟨n0, 0, none⟩ = some (.slice p names.length c) := cell_of_row _ _ 0 _ _ _ hA.v
  have HY := hid hY
  have HST := hid h0
  have hcc := hA.c
  unfold maxLen at hcc
  clear hA h hY h0
  show CallsIn Fence.wide n Try.prog 50 #[.func (.yield l) #[] #[], .pointer (some ⟨n0, 0, none⟩), .pointer (some ⟨n0 + 2, 0, none⟩)] W _
  refine callsIn_of_wp Try.func50 rfl (show Fence.wide.fn 50 from trivial) ?_ rfl
  simp only [Try.ntmps50, List.size_toArray, List.length_cons, List.length_nil, Nat.reduceAdd, Nat.reduceSub, Array.replicate_succ, Array.replicate_zero, List.push_toArray, List.append_toArray, List.nil_append, List.cons_append]
  gi_wp2
  gi_loopw [8] (fun i wr => ∃ k : Nat, k ≤ names.length ∧ i = .int .i64 k ∧ J ((names.take k).map (pairOf m)) wr ∧ AllIs n0 m names p c bm wr) (fun i _ => names.length - (intOf i).toNat)
  case atStart => exact ⟨0, Nat.zero_le _, rfl, HST.out, HA0.out⟩
  case round =>
    rename World => wx
    obtain ⟨k, hk, rfl, hJ0, hA⟩ := hrel
    have HJ0 := hid hJ0
    have HA := hid hA
    clear hJ0 hA
    by_cases hlt : k < names.length
    · have hltI : (k : Int) < names.length := by omega
      obtain ⟨b, o, rfl, hbl, -⟩ := HA.out.row.at (by simp; omega)
      have hck := HA.out.row.cell k (by simpa using hlt)
      simp only [List.getElem_map] at hck
      have HTK : Hid (names.take (k + 1) = names.take k ++ [names[k]]) := take_succ names k hlt
      have HSUF : Hid (names = names.take k ++ names[k] :: names.drop (k + 1)) := by
        unfold Hid
        rw [← List.drop_eq_getElem_cons, List.take_append_drop]
      have c2 : wx.cell? ⟨n0 + 2, 0, none⟩ = some (.map (some bm)) := cell_of_row _ _ 0 _ _ _ HA.out.mv
      have hlk := HA.out.map.run_lookup KStr Try.underlying57 (show (zeroValue 2).run Try.prog wx = .ok (.int .i64 0) wx by kernel_rfl) names[k] false
      have e0 : ((alook m names[k]).map (Value.int .i64)).getD (.int .i64 0) = .int .i64 ((alook m names[k]).getD 0) := by cases alook m names[k] <;> rfl
      rw [e0] at hlk
      simp only [Bool.false_eq_true, if_false] at hlk
      have hpl : ((names.take k).map (pairOf m)).length < names.length := by simp; omega
      obtain ⟨fn, tmps, assign, body, hy, hR⟩ := HY.out ((names.take k).map (pairOf m)) (pairOf m names[k]) wx HJ0.out hpl
      have HPR : Hid ((names.take k).map (pairOf m) ++ [pairOf m names[k]] = (names.take (k + 1)).map (pairOf m)) := by unfold Hid; rw [HTK.out, List.map_append]; rfl
      unfold encP pairOf at hy
      dsimp only at hy
      have HSF : Hid (∃ suf, (names.take (k + 1)).map (pairOf m) ++ suf = names.map (pairOf m)) := ⟨(names.drop (k + 1)).map (pairOf m), by rw [← List.map_append, List.take_append_drop]⟩
      generalize (alook m names[k]).getD 0 = x at hlk hy
      generalize hnk : names[k] = nm at *
      clear hpl e0 hnk
      gi_wp2
      refine hR.mono ?_
      clear hR hy
      rintro e2 W3 ⟨(⟨rfl, hJ3, hk3⟩ | ⟨rfl, hJx3⟩), hkf⟩
      · have HJ3 := hid hJ3
        have HA3 := hid (HA.out.kept hk3)
        clear hJ3 hk3 hkf
        gi_wp2
        go_roundw
        case rel => exact ⟨k + 1, by omega, by go_num, by rw [← HPR.out]; exact HJ3.out, HA3.out⟩
        case measure => simp [intOf]; omega
      · have HJ4 := hid hJx3
        clear hJx3 hkf
        gi_wp2
        refine bodyPost_ret (results_none rfl _ _ _) rfl ?_
        exact ⟨⟨_, rfl⟩, .inr ⟨_, by rw [HPR.out]; exact HSF.out, HJ4.out⟩⟩
    · have hke : k = names.length := by omega
      have HJF : Hid (J (names.map (pairOf m)) wx) := by
        have := HJ0.out
        rw [hke, List.take_of_length_le (Nat.le_refl _)] at this
        exact this
      gi_wp2
      go_end0
      exact ⟨⟨_, rfl⟩, .inl ⟨_, rfl, HJF.out⟩⟩
end Go.Proofs.Ytabkmdhkfbcldaa
namespace Go.Proofs.Ytabkmdhkfbcldaa
open Go.RowKit
attribute [local go_sem] Oper.semAt_some
attribute [local go_sem] wide_fnS wide_depthS
variable {w w' W : World}

theorem ERow : Elem Try.prog 48 55 3 32 (.agg #[.string .empty, .int .i64 0, .bool false]) := Elem.mk' Try.underlying48 (by kernel_rfl) rfl (by decide)
def Rw.cells (r : Rw) : List Value := [.string r.key, .int .i64 r.val, .bool r.told]
def rwOf (y : ByteArray × Int) : Rw := ⟨y.1, y.2, false⟩
/-- What told's loop holds. -/
structure TdI (w : World) (mo : Int) (n0 bm : Nat) (m : List (ByteArray × Int)) (names : List ByteArray) (p : Option Addr) (c : Nat) (pre : List (ByteArray × Int)) (W : World) : Prop where
  v : ∃ v, W.heap[w.heap.size + 1]? = some (.cells #[v] 48 (0, 0)) ∧ W.ownsRow w.heap.size 55 3 v pre.length ((pre.map rwOf).flatMap Rw.cells)
  mb : W.heap[w.heap.size]? = some (.cells #[.int .i64 mo] 3 (0, 0))
  b : Below w.heap.size w W
  le : (pre.length : Int) ≤ mo
theorem TdI.kept {n0 bm c N : Nat} {mo : Int} {m : List (ByteArray × Int)} {names : List ByteArray} {p : Option Addr} {pre : List (ByteArray × Int)} (h : TdI w mo n0 bm m names p c pre W) (hN : w.heap.size + 1 < N) {row : Option Nat} (hg : W.grownBy w' row) (hr : ∀ r, row = some r → N ≤ r ∧ ∃ o : Obj, W.heap[r]? = some o ∧ o.isCells = false) : TdI w mo n0 bm m names p c pre w' := by
  obtain ⟨v, h1, h2⟩ := h.v
  refine ⟨⟨v, (hg.block _ (Array.getElem?_eq_some_iff.1 h1).1 (fun e => by have := (hr _ e.symm).1; omega)).trans h1, ?_⟩, (hg.block _ (Array.getElem?_eq_some_iff.1 h.mb).1 (fun e => by have := (hr _ e.symm).1; omega)).trans h.mb, h.b.grown hg h.b.size (fun r e => by have := (hr r e).1; omega), h.le⟩
  cases row with
  | none => exact h2.kept hg (by cases v.ownBlock <;> simp)
  | some r =>
    obtain ⟨o, ho, hc⟩ := (hr r rfl).2
    exact own_keptO h2 hg ho hc
theorem TdI.push {n0 bm c N : Nat} {mo : Int} {m : List (ByteArray × Int)} {names : List ByteArray} {p : Option Addr} {pre : List (ByteArray × Int)} (h : TdI w mo n0 bm m names p c pre W) (hle : (pre.length : Int) < mo) (hA : AllIs n0 m names p c bm w) (hN : w.heap.size + 1 < N) {v v' : Value} (hv : W.heap[w.heap.size + 1]? = some (.cells #[v] 48 (0, 0))) (hvo : W.ownsRow w.heap.size 55 3 v pre.length ((pre.map rwOf).flatMap Rw.cells))
    {o : Obj} {w2 : World} (y : ByteArray × Int) (ho : w2.ownsRow w.heap.size 55 3 v' (pre.length + 1) ((pre.map rwOf).flatMap Rw.cells ++ Rw.cells (rwOf y))) (hg : (W.alloc o).grownBy w2 v.ownBlock) :
    KeepsFrom N W (w2.setCell ⟨w.heap.size + 1, 0, none⟩ v') ∧ KpL n0 bm p W (w2.setCell ⟨w.heap.size + 1, 0, none⟩ v') ∧ TdI w mo n0 bm m names p c (pre ++ [y]) (w2.setCell ⟨w.heap.size + 1, 0, none⟩ v') := by
  have k2 : ∀ b, b < W.heap.size → v.ownBlock ≠ some b → w2.heap[b]? = W.heap[b]? := fun b hb hne => (hg.block b (by simp; omega) (fun e => hne e.symm)).trans (Below.heap_alloc W o b hb)
  have hvl := (Array.getElem?_eq_some_iff.1 hv).1
  have hge := own_ge hvo
  have tne : ∀ b x, tagAt W b = some x → x ≠ 55 + 1 → v.ownBlock ≠ some b := fun b x hx hn e => tag_ne (own_tag hvo e) hx (Ne.symm hn) rfl
  have hv2 : w2.heap[w.heap.size + 1]? = some (.cells #[v] 48 (0, 0)) := (k2 _ hvl (tne _ (48 + 1) (by unfold tagAt; rw [hv]; rfl) (by decide))).trans hv
  have hmo2 : w2.heap[w.heap.size]? = some (.cells #[.int .i64 mo] 3 (0, 0)) := (k2 _ (by omega) (tne _ (3 + 1) (by unfold tagAt; rw [h.mb]; rfl) (by decide))).trans h.mb
  have hold : ∀ b, b < w.heap.size → (w2.setCell ⟨w.heap.size + 1, 0, none⟩ v').heap[b]? = W.heap[b]? := fun b hb => by
    have hbz := h.b.size
    rw [heap_setCell_other _ _ _ _ (show b ≠ w.heap.size + 1 by omega)]
    exact k2 b (by omega) (fun e => by have := hge b e; omega)
  have hv'n : ∀ g, v'.ownBlock = some g → g ≠ w.heap.size + 1 := fun g hgg => tag_ne (own_tag ho hgg) (by unfold tagAt; rw [hv2]; rfl) (show 55 + 1 ≠ 48 + 1 by decide)
  have hb2 : Below w.heap.size w w2 := (h.b.alloc h.b.size o).grown hg (by have := h.b.size; simp; omega) (fun r e => own_ge hvo r e)
  have l0 := (Array.getElem?_eq_some_iff.1 hA.v).1
  have l1 := (Array.getElem?_eq_some_iff.1 hA.mv).1
  have l2 := hA.map.lt
  have hsz : W.heap.size ≤ (w2.setCell ⟨w.heap.size + 1, 0, none⟩ v').heap.size := by have h1 := hg.size; simp at h1 ⊢; omega
  refine ⟨⟨hsz, fun k ob hk hko hc => ?_⟩, ⟨hold _ l0, hold _ l1, hold _ l2, fun q hq => hold _ (hA.lt q hq), hsz⟩, ⟨⟨v', heap_setCell_same _ _ 0 _ _ _ hv2, ?_⟩, (heap_setCell_other _ _ _ _ (by simp)).trans hmo2, hb2.setCell (by simp) _, by simp; omega⟩⟩
  · rw [heap_setCell_other _ _ _ _ (show k ≠ w.heap.size + 1 by omega), k2 k (Array.getElem?_eq_some_iff.1 hko).1 (fun e => ?_)]
    · exact hko
    · rcases hvo.2 with ⟨h0, _⟩ | ⟨g, cap, cur, h0, _, hgg, _⟩
      · rw [h0] at e; cases e
      · rw [h0] at e
        have e : g = k := by simpa [Value.ownBlock] using e
        subst e
        rw [hgg] at hko
        cases hko
        simp [Obj.isCells] at hc
  · rw [List.length_append, List.map_append, List.flatMap_append]
    have := own_setO ho ⟨w.heap.size + 1, 0, none⟩ v' hv'n
    simpa using this
def ToldTell (m : List (ByteArray × Int)) (names : List ByteArray) (mo : Nat) (w : World) (e : Ending) (w' : World) : Prop :=
  ∃ v, e = .returned v ∧ w'.ownsRow w.heap.size 55 3 v (min mo names.length) ((((names.take mo).map (pairOf m)).map rwOf).flatMap Rw.cells) ∧ Below w.heap.size w w'
set_option maxRecDepth 20000 in
set_option maxHeartbeats 2000000 in
theorem told_any {n0 bm c : Nat} {m : List (ByteArray × Int)} {names : List ByteArray} {p : Option Addr} (h : AllIs n0 m names p c bm w) (hlen : names.length ≤ 1000000) (mo : Nat) (hmo : mo ≤ 1000000) :
    Calls Try.prog 30 #[.func (.func 50) #[] #[.pointer (some ⟨n0, 0, none⟩), .pointer (some ⟨n0 + 2, 0, none⟩)], .int .i64 mo] w (ToldTell m names mo w) := by
  refine callsIn_wide.1 (?_ : CallsIn Fence.wide 9 Try.prog 30 #[.func (.func 50) #[] #[.pointer (some ⟨n0, 0, none⟩), .pointer (some ⟨n0 + 2, 0, none⟩)], .int .i64 mo] w _)
  refine callsIn_of_wp_marks Try.func30 rfl (show Fence.wide.fn 30 from trivial) ?_ rfl
  simp only [Try.ntmps30, List.size_toArray, List.length_cons, List.length_nil, Nat.reduceAdd, Nat.reduceSub, Array.replicate_succ, Array.replicate_zero, List.push_toArray, List.append_toArray, List.nil_append, List.cons_append]
  have hfn : ∀ w1 : World, (binOp .eql 52 (.func (.func 50) #[] #[.pointer (some ⟨n0, 0, none⟩), .pointer (some ⟨n0 + 2, 0, none⟩)]) .nilFunc).run Try.prog w1 = .ok (.bool false) w1 := fun w1 => by kernel_rfl
  gi_wp2
  obtain ⟨W3, hW3⟩ : ∃ W3, W3 = (w.alloc (.cells #[.int .i64 (mo : Int)] 3)).alloc (.cells #[.slice none 0 0] 48) := ⟨_, rfl⟩
  rw [← hW3]
  have hz3 : W3.heap.size = w.heap.size + 1 + 1 := by rw [hW3]; simp
  have hb3 : Below w.heap.size w W3 := by rw [hW3]; exact ((Below.refl _ _).alloc (Nat.le_refl _) _).alloc (by simp) _
  have hI0 : TdI w mo n0 bm m names p c [] W3 := by
    refine ⟨⟨.slice none 0 0, ?_, World.ownsRow_nil _ _ _ _⟩, ?_, hb3, by simp⟩
    · rw [hW3]; exact heap_newAt _ _ _ (by simp)
    · rw [hW3]; exact (Below.heap_alloc _ _ _ (by simp)).trans (heap_alloc_new w _)
  have hA3 := h.below hb3
  have hseq := all2_seq 8 (by omega) hA3 hlen
  have l0 := (Array.getElem?_eq_some_iff.1 h.v).1
  have l1 := (Array.getElem?_eq_some_iff.1 h.mv).1
  have l2 := h.map.lt
  have HQ : Hid (∀ q, p = some q → q.block < w.heap.size) := h.lt
  have HA := hid h
  have HI0 := hid hI0
  clear hW3 hI0 hA3 h hfn
  refine wpIn_rangeFunc_O rfl (by omega) (gf := 50) (lb := #[.pointer (some ⟨n0, 0, none⟩), .pointer (some ⟨n0 + 2, 0, none⟩)]) rfl trivial (enters_of Try.func50 (by kernel_rfl) rfl) hseq
    KpL.trans (fun A l o o' hl h1 h2 h3 => ⟨World.putObj_heap_other (by omega), World.putObj_heap_other (by omega), World.putObj_heap_other (by omega), fun q hq => World.putObj_heap_other (by have := HQ.out q hq; omega), by simp⟩) (Below.refl _ _) (fun _ => rfl)
    (fun pre W' => TdI w mo n0 bm m names p c pre W') (fun cc pre W' => cc = .exit 0 ∧ ∃ pr x, pre = pr ++ [x] ∧ (pr.length : Int) = mo ∧ TdI w mo n0 bm m names p c pr W')
    (fun s A C row hs hg hr => hs.kept (N := W3.heap.size) (by omega) hg hr)
    (fun cc s A C row hs hg hr => by obtain ⟨e1, pr, x, e2, e3, e4⟩ := hs; exact ⟨e1, pr, x, e2, e3, e4.kept (N := W3.heap.size) (by omega) hg hr⟩)
    HI0.out
    ?act ?assign ?body ?done ?stop
  case assign =>
    intro l x W4 K hK
    simp only [encP]
    gi_wp2
    exact hK
  case body =>
    rintro l' pre x W4 hi hpl
    have HI := hid hi
    obtain ⟨v, hv, hvo⟩ := hi.v
    obtain ⟨pv, cv, rfl, -⟩ := own_shape hvo
    have HV := hid hv
    have HVO := hid hvo
    have g0 : W4.cell? ⟨w.heap.size + 1, 0, none⟩ = some (.slice pv pre.length cv) := cell_of_row _ _ 0 _ _ _ hv
    have g1 : W4.cell? ⟨w.heap.size, 0, none⟩ = some (.int .i64 mo) := cell_of_row _ _ 0 _ _ _ hi.mb
    have hlt4 : w.heap.size + 1 < W4.heap.size := (Array.getElem?_eq_some_iff.1 hv).1
    have HPL := hid hpl
    have hle := hi.le
    by_cases hfull : (mo : Int) ≤ pre.length
    · have hpe : (pre.length : Int) = mo := by omega
      have HPE := hid hpe
      clear hi hv hvo hpl hseq hle hpe
      gi_wp2
      exact ⟨KeepsFrom.refl _ _, rfl, pre, x, rfl, HPE.out, HI.out⟩
    · have HPU : Hid (∀ (o : Obj) (w5 : World) (v' : Value), w5.ownsRow w.heap.size 55 3 v' (pre.length + 1) ((pre.map rwOf).flatMap Rw.cells ++ Rw.cells (rwOf x)) → (W4.alloc o).grownBy w5 (Value.slice pv pre.length cv).ownBlock → KeepsFrom W3.heap.size W4 (w5.setCell ⟨w.heap.size + 1, 0, none⟩ v') ∧ KpL n0 bm p W4 (w5.setCell ⟨w.heap.size + 1, 0, none⟩ v') ∧ TdI w mo n0 bm m names p c (pre ++ [x]) (w5.setCell ⟨w.heap.size + 1, 0, none⟩ v')) := fun o w5 v' ho hg => TdI.push (N := W3.heap.size) HI.out (by omega) HA.out (by omega) HV.out HVO.out x ho hg
      have HKC : Hid (∀ (o : Obj) (w5 : World), (W4.alloc o).grownBy w5 (Value.slice pv pre.length cv).ownBlock → w5.cell? ⟨w.heap.size + 1, 0, none⟩ = some (.slice pv pre.length cv) ∧ w5.frozen? ⟨w.heap.size + 1, 0, none⟩ = false) := fun o w5 hg => by
        have e : w5.heap[w.heap.size + 1]? = some (.cells #[.slice pv pre.length cv] 48 (0, 0)) := ((hg.block _ (by simp; omega) (fun e => tag_ne (own_tag HVO.out e.symm) (show tagAt W4 (w.heap.size + 1) = some (48 + 1) by unfold tagAt; rw [HV.out]; rfl) (by decide) rfl)).trans (Below.heap_alloc W4 o _ hlt4)).trans HV.out
        exact ⟨cell_of_row _ _ 0 _ _ _ e, frozen_of_row _ _ 0 _ _ e⟩
      clear hi hv hvo hpl hseq
      gi_wp2_with ((with_reducible show wpListIn _ _ _ _ _ (⟨some 22, _, _, _, _, _⟩ :: _) _ _); go_loud (refine wpListIn_app ERow rfl (.tmp 17) (.tmp 21) rfl w.heap.size (.slice pv pre.length cv) pre.length ((pre.map rwOf).flatMap Rw.cells) rfl (HVO.out.alloc _) _ 1 1 (Rw.cells (rwOf x)) rfl rfl (by intro h; cases h) (row_newAt _ _ _ _ rfl) (by intro u hu; simp [Rw.cells, rwOf] at hu; rcases hu with rfl | rfl | rfl <;> rfl) (by unfold maxLen; have := HPL.out; omega) (by have := HPL.out; omega) (by have := HI.out.b.size; simp; omega) ?_); intro v5 w5 ho5 hg5 hs5; obtain ⟨q5, c5, rfl, -⟩ := own_shape ho5; have HO5 := hid ho5; have HG5 := hid hg5; obtain ⟨y0, yf⟩ := HKC.out _ _ hg5; clear ho5 hg5 hs5)
      obtain ⟨r1, r2, r3⟩ := HPU.out _ _ _ HO5.out HG5.out
      exact ⟨by first | exact r1 | (rw [hz3] at r1; exact r1), r2, r3⟩
  case done =>
    rintro xs W4 rfl hi hD
    obtain ⟨v, hv, hvo⟩ := hi.v
    have g0 : W4.cell? ⟨w.heap.size + 1, 0, none⟩ = some v := cell_of_row _ _ 0 _ _ _ hv
    have hle := hi.le
    rw [List.length_map] at hle hvo
    have hmn : min mo names.length = names.length := by omega
    have htk : names.take mo = names := List.take_of_length_le (by omega)
    have HVO := hid hvo
    have HI := hid hi
    have HD := hid hD
    have HF : Hid (∀ W', W4.grownBy W' (some W3.heap.size) → ToldTell m names mo w (.returned v) W') := fun W' hg => by
      refine ⟨v, rfl, ?_, HI.out.b.grown hg HI.out.b.size (fun r e => by cases e; omega)⟩
      rw [hmn, htk]
      exact own_keptO HVO.out hg HD.out rfl
    obtain ⟨pv, cv, rfl, -⟩ := own_shape hvo
    clear hi hv hvo hle hseq hmn htk
    gi_wp2
    refine ⟨by simp, .inl ⟨_, _, rfl, run_takeDeferred hD, ?_⟩⟩
    exact ⟨_, by simp [results, Try.results30, go_sem], HF.out _ (grownBy_putObj' _ _ _)⟩
  case stop =>
    rintro cc pre W4 ⟨suf, hsuf⟩ ⟨rfl, pr, x, rfl, hpl, hi⟩ hD
    obtain ⟨v, hv, hvo⟩ := hi.v
    have g0 : W4.cell? ⟨w.heap.size + 1, 0, none⟩ = some v := cell_of_row _ _ 0 _ _ _ hv
    have hl := congrArg List.length hsuf
    simp only [List.length_append, List.length_map, List.length_cons, List.length_nil] at hl
    have hmn : min mo names.length = pr.length := by omega
    have htk : (names.take mo).map (pairOf m) = pr := by
      have hpm : pr.length = mo := by omega
      rw [List.map_take, ← hsuf, List.append_assoc, ← hpm, List.take_left']
      rfl
    have HVO := hid hvo
    have HI := hid hi
    have HD := hid hD
    have HF : Hid (∀ W', W4.grownBy W' (some W3.heap.size) → ToldTell m names mo w (.returned v) W') := fun W' hg => by
      refine ⟨v, rfl, ?_, HI.out.b.grown hg HI.out.b.size (fun r e => by cases e; omega)⟩
      rw [hmn, htk]
      exact own_keptO HVO.out hg HD.out rfl
    obtain ⟨pv, cv, rfl, -⟩ := own_shape hvo
    clear hi hv hvo hl hseq hmn htk hsuf hpl
    gi_wp2
    refine ⟨by simp, .inl ⟨_, _, rfl, run_takeDeferred hD, ?_⟩⟩
    exact ⟨_, by simp [results, Try.results30, go_sem], HF.out _ (grownBy_putObj' _ _ _)⟩
end Go.Proofs.Ytabkmdhkfbcldaa
