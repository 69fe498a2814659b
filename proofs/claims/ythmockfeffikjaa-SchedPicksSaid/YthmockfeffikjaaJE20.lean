/-
  Enabled, its function, some.
  some.
-/
import Derived.Test.YthmockfeffikjaaJE19
import Derived.LoopNIn
namespace Go.Proofs.Ythmockfeffikjaa
open Go.RowKit
variable {W W' : World} {base L : Nat} {S : SL} {fw fc : Nat → Prop}

def SL.enabTo (S : SL) (k : Nat) : List Int := ((List.range k).filter (fun i : Nat => S.canN (i : Int))).map (fun i : Nat => (i : Int))
theorem enab_yes {k : Nat} (h : S.canN k = true) : S.enabTo (k + 1) = S.enabTo k ++ [(k : Int)] := by
  unfold SL.enabTo
  rw [List.range_succ, List.filter_append, List.map_append]
  simp [h]
theorem enab_no {k : Nat} (h : S.canN k = false) : S.enabTo (k + 1) = S.enabTo k := by
  unfold SL.enabTo
  rw [List.range_succ, List.filter_append, List.map_append]
  simp [h]
theorem enab_le (k : Nat) : (S.enabTo k).length ≤ k := by
  unfold SL.enabTo
  rw [List.length_map]
  exact Nat.le_trans (List.length_filter_le _ _) (by simp)
def SL.enab (S : SL) : List Int := S.enabTo S.work.length
def intL (v : Value) : Obj := .cells #[v] 23 (0, 0)
/-- What has been gathered. -/
structure EnI (W : World) (l : List Int) (wr : World) (v : Value) : Prop where
  h : wr.heap[W.heap.size]? = some (intL v)
  o : wr.ownsRow W.heap.size 3 1 v l.length (i64s l)
  n : v.ownBlock ≠ some W.heap.size
  b : Below W.heap.size W wr
def EnTell (W : World) (l : List Int) (e : Ending) (w' : World) : Prop := e = .returned (.func (.func 40) #[] #[.pointer (some ⟨W.heap.size, 0, none⟩)]) ∧ ∃ v, EnI W l w' v

set_option maxRecDepth 100000 in
set_option maxHeartbeats 2000000 in
theorem enab_any (H : LM W base L S fc fw) : Calls Try.prog 19 #[mi L] W (EnTell W S.enab) := by
  have hb64 := H.bnd
  have HW := hid (fun w' (hb : Below W.heap.size W w') => lworkers_any (H.below hb))
  have HA := hid (fun w' (hb : Below W.heap.size W w') (n : Int) => able_any (H.below hb) n)
  have k1 := m_workers
  unfold mi at *
  clear H
  have hB0 : Hid (Below W.heap.size W (W.alloc (.cells #[.slice none 0 0] 23))) := (Below.refl _ _).alloc (Nat.le_refl _) _
  have HE0 : Hid (EnI W (S.enabTo 0) (W.alloc (.cells #[.slice none 0 0] 23)) (.slice none 0 0)) := ⟨heap_alloc_new W _, World.ownsRow_nil _ _ _ _, fun e => (by cases e), hB0.out⟩
  go_enter Try.func19, Try.ntmps19
  go_wp2_with (go_at_call 25; (with_reducible refine (HW.out _ hB0.out).mono ?_); rintro e w' ⟨rfl, rfl⟩)
  go_loopw [9] (fun i wr => ∃ k : Nat, k ≤ S.work.length ∧ i = .int .i64 k ∧ ∃ v, EnI W (S.enabTo k) wr v) (fun i _ => S.work.length - (intOf i).toNat)
  case atStart => exact ⟨0, Nat.zero_le _, rfl, _, HE0.out⟩
  case round =>
    clear HE0
    obtain ⟨k, hk, rfl, v, he⟩ := hrel
    have HE := hid he
    have hz := he.b.size
    have hlt0 := (Array.getElem?_eq_some_iff.1 he.h).1
    clear he
    by_cases hlt : k < S.work.length
    · have HAK := hid (HA.out wr HE.out.b k)
      cases hc : S.canN k
      · rw [hc] at HAK
        have HN := hid (enab_no hc)
        clear hc
        go_wp2_with (go_at_call 31; (with_reducible refine HAK.out.mono ?_); rintro e w2 ⟨rfl, hb2⟩; have HB2 := hid hb2; clear hb2)
        go_roundw
        case rel =>
          refine ⟨k + 1, by omega, by go_num, v, ?_⟩
          rw [HN.out]
          exact ⟨(HB2.out.block _ hlt0).trans HE.out.h, own_below HE.out.o HB2.out, HE.out.n, below_tr HB2.out HE.out.b (Nat.le_refl _)⟩
        case measure => simp [intOf]; omega
      · rw [hc] at HAK
        have HN := hid (enab_yes hc)
        have hel := enab_le (S := S) k
        clear hc
        go_wp2_with (first
          | (go_at_call 31; (with_reducible refine HAK.out.mono ?_); rintro e w2 ⟨rfl, hb2⟩; have HB2 := hid hb2; have hz2 := hb2.size; have H2 : Hid (w2.heap[W.heap.size]? = some (intL v)) := (hb2.block _ hlt0).trans HE.out.h; have hlt2 : W.heap.size < w2.heap.size := (by omega); have hv2 : w2.cell? ⟨W.heap.size, 0, none⟩ = some v := cell_of_row _ _ 0 _ _ _ H2.out; clear hb2)
          | ((with_reducible show wpList _ _ _ (⟨some 18, _, _, _, _, _⟩ :: _) _ _); go_loud (refine wpList_app EI rfl _ _ rfl W.heap.size v (S.enabTo k).length (i64s (S.enabTo k)) rfl ((own_below HE.out.o HB2.out).alloc _) _ 1 1 [i64 k] rfl (by simp) (fun e => by cases e) (row_newAt _ _ _ _ (by simp)) (by simp [Value.oneCell']) (by unfold maxLen; omega) (by omega) (by simp; omega) ?_); intro v4 w4 ho4 hg4 hs4; obtain ⟨vp4, vc4, rfl, _⟩ := own_row ho4; have H4 : Hid (w4.heap[W.heap.size]? = some (intL v)) := (hg4.block _ (by simp; omega) (fun e => HE.out.n e.symm)).trans ((Below.heap_alloc _ _ _ hlt2).trans H2.out); have hv4 : w4.cell? ⟨W.heap.size, 0, none⟩ = some v := cell_of_row _ _ 0 _ _ _ H4.out; have hf4 : w4.frozen? ⟨W.heap.size, 0, none⟩ = false := frozen_of_row _ _ _ _ _ H4.out; have HO4 := hid ho4; have HG4 := hid hg4; have HS4 := hid hs4; clear ho4 hg4 hs4))
        go_roundw
        case rel =>
          refine ⟨k + 1, by omega, by go_num, .slice vp4 ((S.enabTo k).length + 1) vc4, ?_⟩
          rw [HN.out]
          have hb2 := below_tr HB2.out HE.out.b (Nat.le_refl _)
          have hvn : ∀ q, (Value.slice vp4 ((S.enabTo k).length + 1) vc4).ownBlock = some q → q ≠ W.heap.size := fun q e e2 => by
            subst e2
            rcases HS4.out _ e with h | h
            · exact HE.out.n h
            · simp at h; omega
          refine ⟨heap_setCell_same w4 W.heap.size 0 _ _ _ H4.out, ?_, fun e => hvn _ e rfl, ?_⟩
          · have h5 : w4.ownsRow W.heap.size 3 1 (.slice vp4 ((S.enabTo k).length + 1) vc4) (S.enabTo k ++ [(k : Int)]).length (i64s (S.enabTo k ++ [(k : Int)])) := by simpa using HO4.out
            exact own_setO h5 _ _ (fun q hq => hvn q hq)
          · exact (((hb2.alloc hb2.size _).grown HG4.out (by simp; omega) (fun q hq => own_ge HE.out.o q hq)).setCell (Nat.le_refl _) _)
        case measure => simp [intOf]; omega
    · have hkl : k = S.work.length := by omega
      subst hkl
      go_wp2
      go_ret
      exact ⟨rfl, v, HE.out⟩

attribute [local go_sem] Oper.semAt_some
attribute [local go_sem] wide_fnM wide_depthM
def VE (l : List Int) (pre : List Int) (_ : Nat) (x : Int) (_ : World) : Prop := ∃ suf, pre ++ [x] ++ suf = l
def E1I (b : Nat) (l : List Int) (v : Value) (J : List Int → (Nat → Prop) → Nat → World → Prop) (i : Value) (wr : World) : Prop :=
  ∃ (k : Nat) (T : Nat → Prop) (hs : Nat), k ≤ l.length ∧ i = .int .i64 k ∧ J (l.take k) T hs wr ∧ wr.heap[b]? = some (intL v) ∧ wr.ownsRow b 3 1 v l.length (i64s l) ∧ (∀ j, j = b ∨ v.ownBlock = some j → T j) ∧ hs ≤ wr.heap.size

set_option maxHeartbeats 2000000 in
theorem enab1_seq {w : World} {b : Nat} {l : List Int} {v : Value} (n : Nat) (hn : 1 ≤ n) (hh : w.heap[b]? = some (intL v)) (ho : w.ownsRow b 3 1 v l.length (i64s l)) (hlen : l.length ≤ 1000000) :
    SeqV Fence.wide n Try.prog 40 #[.pointer (some ⟨b, 0, none⟩)] (fun x : Int => #[i64 x]) (VE l) StM (fun k => k = b ∨ v.ownBlock = some k) (fun ys => ys = l) (fun pre => ∃ suf, pre ++ suf = l) w := by
  intro lp J Jx W hW hJ hJx hY h0
  have hbl := (Array.getElem?_eq_some_iff.1 hh).1
  have h1 : W.heap[b]? = some (intL v) := (hW.block _ hbl).trans hh
  have h2 := own_below ho hW
  have hc0 : W.cell? ⟨b, 0, none⟩ = some v := cell_of_row _ _ 0 _ _ _ h1
  obtain ⟨p, c, rfl, hnc, hcm, _⟩ := own_row h2
  unfold maxLen at hcm
  have hst : E1I b l (.slice p l.length c) J (.int .i64 (0 : Nat)) W := ⟨0, _, _, Nat.zero_le _, rfl, h0, h1, h2, fun j hj => hj, Nat.le_refl _⟩
  have HST := hid hst
  have HY := hid hY
  clear hst h0 hh ho h1 h2 hJ hJx hY
  show CallsIn Fence.wide n Try.prog 40 #[.func (.yield lp) #[] #[], .pointer (some ⟨b, 0, none⟩)] W _
  refine callsIn_of_wp Try.func40 rfl (show Fence.wide.fn 40 from trivial) ?_ rfl
  simp only [Try.ntmps40, List.size_toArray, List.length_cons, List.length_nil, Nat.reduceAdd, Nat.reduceSub, Array.replicate_succ, Array.replicate_zero, List.push_toArray, List.append_toArray, List.nil_append, List.cons_append]
  gi_wp2
  gi_loopw [7] (fun i wr => E1I b l (.slice p l.length c) J i wr) (fun i _ => l.length - (intOf i).toNat)
  case atStart => exact HST.out
  case round =>
    clear HST hc0
    obtain ⟨k, T, hs, hk, rfl, hJ0, hB, hO, hT, hhs⟩ := hrel
    have HJ0 := hid hJ0
    have HB := hid hB
    have HO := hid hO
    have HT := hid hT
    clear hJ0 hB hO hT
    by_cases hlt : k < l.length
    · have hltI : (k : Int) < l.length := by omega
      obtain ⟨p', c', e', _, _, hrow, _⟩ := own_row HO.out
      cases e'
      obtain ⟨g, o, rfl, hbz, hc⟩ := hrow.at (by simpa using (by omega : 0 < l.length))
      have hcell := hc k (by simpa using hlt)
      simp only [List.getElem_map] at hcell
      have HTK := hid (take_succ l k hlt)
      have hV : VE l (l.take k) hs l[k] wr := ⟨l.drop (k + 1), by rw [← take_succ l k hlt, List.take_append_drop]⟩
      obtain ⟨x, hx⟩ : ∃ x, x = l[k] := ⟨_, rfl⟩
      rw [← hx] at hcell hV HTK
      clear hx hrow hc
      obtain ⟨fn, tmps, assign, body, hy, hR⟩ := HY.out (l.take k) T hs x wr HJ0.out hV
      gi_wp2
      refine hR.mono ?_
      clear hR hy
      rintro e W3 (⟨rfl, hJ3, hk3⟩ | ⟨rfl, hJx3⟩)
      · have hz := hk3.size
        have hB3 := (hk3.same b (.inl (HT.out b (.inl rfl))) (Array.getElem?_eq_some_iff.1 HB.out).1).trans HB.out
        have hO3 : W3.ownsRow b 3 1 (.slice (some ⟨g, o, none⟩) l.length c) l.length (i64s l) := own_blk HO.out (fun j hj => hk3.same j (.inl (HT.out j (.inr hj))) (own_lt HO.out j hj))
        have HB3 := hid hB3
        have HO3 := hid hO3
        have HJ4 := hid hJ3
        clear hB3 hO3 hJ3 hk3
        gi_wp2
        go_roundw
        case rel => exact ⟨k + 1, more T hs wr, W3.heap.size, by omega, by go_num, by rw [HTK.out]; exact HJ4.out, HB3.out, HO3.out, fun j hj => Or.inl (HT.out j hj), Nat.le_refl _⟩
        case measure => simp [intOf]; omega
      · have HJ4 := hid hJx3
        clear hJx3
        gi_wp2
        refine bodyPost_ret (results_none rfl _ _ _) rfl ?_
        exact ⟨⟨_, rfl⟩, .inr ⟨_, ⟨l.drop (k + 1), by rw [← HTK.out, List.take_append_drop]⟩, HJ4.out⟩⟩
    · have hkl : k = l.length := by omega
      have HJE := HJ0.out
      rw [hkl, List.take_length] at HJE
      have HJE := hid HJE
      clear hkl
      gi_wp2
      go_end0
      exact ⟨⟨_, rfl⟩, .inl ⟨_, _, HJE.out⟩⟩
end Go.Proofs.Ythmockfeffikjaa
namespace Go.Proofs.Ythmockfeffikjaa
open Go.RowKit
attribute [local go_sem] Oper.semAt_some
attribute [local go_sem] wide_fnM wide_depthM
variable {W W' : World} {base L : Nat} {S : SL} {fw fc : Nat → Prop}

/-- What some holds between two rounds, and behind its return. -/
def SoI (W : World) (pre : List Int) (_ : Nat → Prop) (_ : Nat) (X : World) : Prop := pre = [] ∧ Below W.heap.size W X ∧ X.heap[W.heap.size]? = some (.cells #[.bool false] 4 (0, 0))
def SoX (W : World) (l : List Int) (c : Code) (_ : List Int) (X : World) : Prop := c = .ret ∧ l ≠ [] ∧ Below W.heap.size W X ∧ X.heap[W.heap.size]? = some (.cells #[.bool true] 4 (0, 0))
theorem put_other {X : World} {l b : Nat} {r : Loop} {cs : Array Value} {t : TypeId} {q : Nat × Nat} (hl : X.heap[l]? = some (.loop r)) (h : X.heap[b]? = some (.cells cs t q)) (o : Obj) : (X.putObj l o).heap[b]? = some (.cells cs t q) :=
  (World.putObj_heap_other (fun e => by subst e; rw [hl] at h; cases h)).trans h

set_option maxRecDepth 100000 in
set_option maxHeartbeats 2000000 in
theorem some_any (H : LM W base L S fc fw) : Calls Try.prog 48 #[mi L] W fun e w' => e = .returned (.bool (!S.enab.isEmpty)) ∧ Below W.heap.size W w' := by
  have hb64 := H.bnd
  have hel : S.enab.length ≤ 64 := Nat.le_trans (enab_le _) hb64
  have HE := hid (fun w' (hb : Below W.heap.size W w') => enab_any (H.below hb))
  clear H
  have hB0 : Hid (Below W.heap.size W (W.alloc (.cells #[.bool false] 4))) := (Below.refl _ _).alloc (Nat.le_refl _) _
  refine callsIn_wide.1 (?_ : CallsIn Fence.wide 5 Try.prog 48 #[mi L] W _)
  refine callsIn_of_wp_marks Try.func48 rfl (show Fence.wide.fn 48 from trivial) ?_ rfl
  simp only [Try.ntmps48, List.size_toArray, List.length_cons, List.length_nil, Nat.reduceAdd, Nat.reduceSub, Array.replicate_succ, Array.replicate_zero, List.push_toArray, List.append_toArray, List.nil_append, List.cons_append]
  unfold EnTell at HE
  gi_wp2_with (gi_at_call 19; refine (callsIn_wide.2 (HE.out _ hB0.out)).mono ?_; rintro e w2 ⟨rfl, v, he⟩; have HEN := hid he; clear he)
  have hz2 := HEN.out.b.size
  rw [World.size_alloc] at hz2
  have hrb : Hid (w2.heap[W.heap.size]? = some (.cells #[.bool false] 4 (0, 0))) := (HEN.out.b.block _ (by simp)).trans (heap_alloc_new W _)
  have hBw : Hid (Below W.heap.size W w2) := hB0.out.trans (HEN.out.b.mono (by simp))
  have hh := HEN.out.h
  have ho := HEN.out.o
  rw [World.size_alloc] at hh ho
  have hz3 := (Array.getElem?_eq_some_iff.1 hh).1
  have hseq := enab1_seq (l := S.enab) (v := v) 4 (by omega) hh ho (by omega)
  have hvl : ∀ j, v.ownBlock = some j → j < w2.heap.size := fun j hj => own_lt ho j hj
  refine wpIn_rangeFunc_V rfl (by omega) (gf := 40) (lb := #[.pointer (some ⟨W.heap.size + 1, 0, none⟩)]) rfl trivial (enters_of Try.func40 (by kernel_rfl) rfl) hseq (Below.refl _ _) (fun _ => rfl)
    (fun k hk => by rcases hk with h | h; omega; exact hvl k h)
    (fun W W' h k o hk _ _ => (h.block k (Array.getElem?_eq_some_iff.1 hk).1).trans hk)
    (fun _ _ _ _ _ _ _ h _ => h)
    (SoI W) (SoX W S.enab) (fun pre T hs X X' h hst => ⟨h.1, h.2.1.trans (hst.mono h.2.1.size), (hst.block _ (Array.getElem?_eq_some_iff.1 h.2.2).1).trans h.2.2⟩)
    (fun c pre X X' h hst => ⟨h.1, h.2.1, h.2.2.1.trans (hst.mono h.2.2.1.size), (hst.block _ (Array.getElem?_eq_some_iff.1 h.2.2.2).1).trans h.2.2.2⟩)
    (fun pre T hs X r o h hl => ⟨h.1, Below.putObjB h.2.1 h.2.1.size (by omega) o, put_other hl h.2.2 o⟩)
    (fun c pre X r o h hl => ⟨h.1, h.2.1, Below.putObjB h.2.2.1 h.2.2.1.size (by omega) o, put_other hl h.2.2.2 o⟩)
    ?start ?acta ?assigna ?bodya ?donea ?stopa
  case start =>
    intro r
    have hb3 : Below w2.heap.size w2 ((w2.alloc (.deferred (some []))).alloc (.loop r)) := ((Below.refl _ _).alloc (Nat.le_refl _) _).alloc (by simp) _
    exact ⟨rfl, hBw.out.trans (hb3.mono (by omega)), (hb3.block _ (by omega)).trans hrb.out⟩
  case assigna =>
    intro l x X K hK
    gi_wp2
    exact hK
  case bodya =>
    rintro l pre T hs x X ⟨rfl, hb, hc⟩ ⟨suf, hsuf⟩ hhs hsz hT
    have HB := hid hb
    have HC := hid hc
    have c0 : X.cell? ⟨W.heap.size, 0, none⟩ = some (.bool false) := cell_of_row _ _ 0 _ _ _ hc
    have f0 : X.frozen? ⟨W.heap.size, 0, none⟩ = false := frozen_of_row _ _ _ _ _ hc
    have HNE : Hid (S.enab ≠ []) := by rw [← hsuf]; simp [Hid]
    have HZ := hid (And.intro hsz hz2)
    clear hb hc hsuf hseq hvl HE
    gi_wp2
    refine ⟨KeepsT.setCell X _ _ ?_, rfl, HNE.out, HB.out.setCell (Nat.le_refl _) _, heap_setCell_same X W.heap.size 0 _ _ _ HC.out⟩
    rintro (h | h)
    · have h' : W.heap.size = w2.heap.size := h
      omega
    · have h' : W.heap.size = w2.heap.size + 1 := h
      omega
  case donea =>
    rintro xs T hs X rfl ⟨hpre, hb, hc⟩ hD
    have HB := hid hb
    have HC := hid hc
    have HD := hid hD
    have c0 : X.cell? ⟨W.heap.size, 0, none⟩ = some (.bool false) := cell_of_row _ _ 0 _ _ _ hc
    have f0 : X.frozen? ⟨W.heap.size, 0, none⟩ = false := frozen_of_row _ _ _ _ _ hc
    have HV : Hid ((!S.enab.isEmpty) = false) := by rw [Hid, hpre]; rfl
    clear hb hc hD hpre hseq hvl HE
    gi_wp2
    obtain ⟨WS, hWS⟩ : ∃ x, x = X.setCell ⟨W.heap.size, 0, none⟩ (.bool false) := ⟨_, rfl⟩
    rw [← hWS]
    have dB : WS.heap[w2.heap.size]? = some (.deferred (some [])) := by rw [hWS]; exact (Below.heap_setCell _ _ _ _ (show w2.heap.size ≠ W.heap.size by omega)).trans HD.out
    have cS : WS.cell? ⟨W.heap.size, 0, none⟩ = some (.bool false) := by rw [hWS]; exact World.cell?_setCell_same _ _ _ c0
    have cS2 := cell_kept cS (grownBy_putObj' WS w2.heap.size (.deferred none)) (fun r e => by cases e; exact ⟨_, dB, rfl⟩)
    have bS : Below W.heap.size W WS := by rw [hWS]; exact HB.out.setCell (Nat.le_refl _) _
    refine ⟨by simp, .inl ⟨_, _, rfl, run_takeDeferred dB, ?_⟩⟩
    exact ⟨.bool false, by simp [results, Try.results48, go_sem, cS2], by rw [HV.out], Below.putObjB bS bS.size (l := w2.heap.size) (by omega) (.deferred none)⟩
  case stopa =>
    rintro c pre X _ ⟨rfl, hne, hb, hc⟩ hD
    have HB := hid hb
    have HC := hid hc
    have HD := hid hD
    have HV : Hid ((!S.enab.isEmpty) = true) := by
      cases h : S.enab with
      | nil => exact absurd h hne
      | cons a l => rw [Hid]; rfl
    have c0 : X.cell? ⟨W.heap.size, 0, none⟩ = some (.bool true) := cell_of_row _ _ 0 _ _ _ hc
    clear hb hc hD hne hseq hvl HE
    gi_wp2
    have cS2 := cell_kept c0 (grownBy_putObj' X w2.heap.size (.deferred none)) (fun r e => by cases e; exact ⟨_, HD.out, rfl⟩)
    refine ⟨by simp, .inl ⟨_, _, rfl, run_takeDeferred HD.out, ?_⟩⟩
    exact ⟨.bool true, by simp [results, Try.results48, go_sem, cS2], by rw [HV.out], Below.putObjB HB.out HB.out.size (l := w2.heap.size) (by omega) (.deferred none)⟩
end Go.Proofs.Ythmockfeffikjaa
