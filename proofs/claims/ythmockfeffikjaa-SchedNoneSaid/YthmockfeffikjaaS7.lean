/-
  Enabled, its function, some.
-/
import Derived.Test.YthmockfeffikjaaS6
import Derived.Test.YthmockfeffikjaaRangeA
namespace Go.Proofs.Ythmockfeffikjaa
open Go.RowKit
variable {W W' : World} {base L : Nat} {S : SL} {fw fc : Nat → Prop}

def SL.enabTo (S : SL) (k : Nat) : List Int := ((List.range k).filter (fun i : Nat => S.canN (i : Int))).map (fun i : Nat => (i : Int))
theorem enab_yes {k : Nat} (h : S.canN k = true) : S.enabTo (k + 1) = S.enabTo k ++ [(k : Int)] := by
  unfold SL.enabTo
  rw [List.range_succ, List.filter_append, List.map_append]
  simp [h]
theorem enab_no {k : Nat} (h : S.canN k = false) : S.enabTo (k + 1) = S.enabTo k := by
  unfold SL.enabTo
  rw [List.range_succ, List.filter_append, List.map_append]
  simp [h]
theorem enab_le (k : Nat) : (S.enabTo k).length ≤ k := by
  unfold SL.enabTo
  rw [List.length_map]
  exact Nat.le_trans (List.length_filter_le _ _) (by simp)
def SL.enab (S : SL) : List Int := S.enabTo S.work.length
def intL (v : Value) : Obj := .cells #[v] 23 (0, 0)
/-- What has been gathered. -/
structure EnI (W : World) (l : List Int) (wr : World) (v : Value) : Prop where
  h : wr.heap[W.heap.size]? = some (intL v)
  o : wr.ownsRow W.heap.size 3 1 v l.length (i64s l)
  n : v.ownBlock ≠ some W.heap.size
  b : Below W.heap.size W wr
def EnTell (W : World) (l : List Int) (e : Ending) (w' : World) : Prop := e = .returned (.func (.func 40) #[] #[.pointer (some ⟨W.heap.size, 0, none⟩)]) ∧ ∃ v, EnI W l w' v

set_option maxRecDepth 100000 in
set_option maxHeartbeats 2000000 in
theorem enab_any (H : LM W base L S fc fw) : Calls Try.prog 19 #[mi L] W (EnTell W S.enab) := by
  have hb64 := H.bnd
  have HW := hid (fun w' (hb : Below W.heap.size W w') => lworkers_any (H.below hb))
  have HA := hid (fun w' (hb : Below W.heap.size W w') (n : Int) => able_any (H.below hb) n)
  have k1 := m_workers
  unfold mi at *
  clear H
  have hB0 : Hid (Below W.heap.size W (W.alloc (.cells #[.slice none 0 0] 23))) := (Below.refl _ _).alloc (Nat.le_refl _) _
  have HE0 : Hid (EnI W (S.enabTo 0) (W.alloc (.cells #[.slice none 0 0] 23)) (.slice none 0 0)) := ⟨heap_alloc_new W _, World.ownsRow_nil _ _ _ _, fun e => (by cases e), hB0.out⟩
  go_enter Try.func19, Try.ntmps19
  go_wp2_with (go_at_call 25; (with_reducible refine (HW.out _ hB0.out).mono ?_); rintro e w' ⟨rfl, rfl⟩)
  go_loopw [9] (fun i wr => ∃ k : Nat, k ≤ S.work.length ∧ i = .int .i64 k ∧ ∃ v, EnI W (S.enabTo k) wr v) (fun i _ => S.work.length - (intOf i).toNat)
  case atStart => exact ⟨0, Nat.zero_le _, rfl, _, HE0.out⟩
  case round =>
    clear HE0
    obtain ⟨k, hk, rfl, v, he⟩ := hrel
    have HE := hid he
    have hz := he.b.size
    have hlt0 := (Array.getElem?_eq_some_iff.1 he.h).1
    clear he
    by_cases hlt : k < S.work.length
    · have HAK := hid (HA.out wr HE.out.b k)
      cases hc : S.canN k
      · rw [hc] at HAK
        have HN := hid (enab_no hc)
        clear hc
        go_wp2_with (go_at_call 31; (with_reducible refine HAK.out.mono ?_); rintro e w2 ⟨rfl, hb2⟩; have HB2 := hid hb2; clear hb2)
        go_roundw
        case rel =>
          refine ⟨k + 1, by omega, by go_num, v, ?_⟩
          rw [HN.out]
          exact ⟨(HB2.out.block _ hlt0).trans HE.out.h, own_below HE.out.o HB2.out, HE.out.n, below_tr HB2.out HE.out.b (Nat.le_refl _)⟩
        case measure => simp [intOf]; omega
      · rw [hc] at HAK
        have HN := hid (enab_yes hc)
        have hel := enab_le (S := S) k
        clear hc
        go_wp2_with (first
          | (go_at_call 31; (with_reducible refine HAK.out.mono ?_); rintro e w2 ⟨rfl, hb2⟩; have HB2 := hid hb2; have hz2 := hb2.size; have H2 : Hid (w2.heap[W.heap.size]? = some (intL v)) := (hb2.block _ hlt0).trans HE.out.h; have hlt2 : W.heap.size < w2.heap.size := (by omega); have hv2 : w2.cell? ⟨W.heap.size, 0, none⟩ = some v := cell_of_row _ _ 0 _ _ _ H2.out; clear hb2)
          | ((with_reducible show wpList _ _ _ (⟨some 18, _, _, _, _, _⟩ :: _) _ _); go_loud (refine wpList_app EI rfl _ _ rfl W.heap.size v (S.enabTo k).length (i64s (S.enabTo k)) rfl ((own_below HE.out.o HB2.out).alloc _) _ 1 1 [i64 k] rfl (by simp) (fun e => by cases e) (row_newAt _ _ _ _ (by simp)) (by simp [Value.oneCell']) (by unfold maxLen; omega) (by omega) (by simp; omega) ?_); intro v4 w4 ho4 hg4 hs4; obtain ⟨vp4, vc4, rfl, _⟩ := own_row ho4; have H4 : Hid (w4.heap[W.heap.size]? = some (intL v)) := (hg4.block _ (by simp; omega) (fun e => HE.out.n e.symm)).trans ((Below.heap_alloc _ _ _ hlt2).trans H2.out); have hv4 : w4.cell? ⟨W.heap.size, 0, none⟩ = some v := cell_of_row _ _ 0 _ _ _ H4.out; have hf4 : w4.frozen? ⟨W.heap.size, 0, none⟩ = false := frozen_of_row _ _ _ _ _ H4.out; have HO4 := hid ho4; have HG4 := hid hg4; have HS4 := hid hs4; clear ho4 hg4 hs4))
        go_roundw
        case rel =>
          refine ⟨k + 1, by omega, by go_num, .slice vp4 ((S.enabTo k).length + 1) vc4, ?_⟩
          rw [HN.out]
          have hb2 := below_tr HB2.out HE.out.b (Nat.le_refl _)
          have hvn : ∀ q, (Value.slice vp4 ((S.enabTo k).length + 1) vc4).ownBlock = some q → q ≠ W.heap.size := fun q e e2 => by
            subst e2
            rcases HS4.out _ e with h | h
            · exact HE.out.n h
            · simp at h; omega
          refine ⟨heap_setCell_same w4 W.heap.size 0 _ _ _ H4.out, ?_, fun e => hvn _ e rfl, ?_⟩
          · have h5 : w4.ownsRow W.heap.size 3 1 (.slice vp4 ((S.enabTo k).length + 1) vc4) (S.enabTo k ++ [(k : Int)]).length (i64s (S.enabTo k ++ [(k : Int)])) := by simpa using HO4.out
            exact own_setO h5 _ _ (fun q hq => hvn q hq)
          · exact (((hb2.alloc hb2.size _).grown HG4.out (by simp; omega) (fun q hq => own_ge HE.out.o q hq)).setCell (Nat.le_refl _) _)
        case measure => simp [intOf]; omega
    · have hkl : k = S.work.length := by omega
      subst hkl
      go_wp2
      go_ret
      exact ⟨rfl, v, HE.out⟩

attribute [local go_sem] Oper.semAt_some
attribute [local go_sem] wide_fnM wide_depthM
def VE (l : List Int) (pre : List Int) (_ : Nat) (x : Int) (_ : World) : Prop := ∃ suf, pre ++ [x] ++ suf = l
def E1I (b : Nat) (l : List Int) (v : Value) (J : List Int → (Nat → Prop) → Nat → World → Prop) (i : Value) (wr : World) : Prop :=
  ∃ (k : Nat) (T : Nat → Prop) (hs : Nat), k ≤ l.length ∧ i = .int .i64 k ∧ J (l.take k) T hs wr ∧ wr.heap[b]? = some (intL v) ∧ wr.ownsRow b 3 1 v l.length (i64s l) ∧ (∀ j, j = b ∨ v.ownBlock = some j → T j) ∧ hs ≤ wr.heap.size

set_option maxHeartbeats 2000000 in
theorem enab1_seq {w : World} {b : Nat} {l : List Int} {v : Value} (n : Nat) (hn : 1 ≤ n) (hh : w.heap[b]? = some (intL v)) (ho : w.ownsRow b 3 1 v l.length (i64s l)) (hlen : l.length ≤ 1000000) :
    SeqV Fence.wide n Try.prog 40 #[.pointer (some ⟨b, 0, none⟩)] (fun x : Int => #[i64 x]) (VE l) StM (fun k => k = b ∨ v.ownBlock = some k) (fun ys => ys = l) (fun pre => ∃ suf, pre ++ suf = l) w := by
  intro lp J Jx W hW hJ hJx hY h0
  have hbl := (Array.getElem?_eq_some_iff.1 hh).1
  have h1 : W.heap[b]? = some (intL v) := (hW.block _ hbl).trans hh
  have h2 := own_below ho hW
  have hc0 : W.cell? ⟨b, 0, none⟩ = some v := cell_of_row _ _ 0 _ _ _ h1
  obtain ⟨p, c, rfl, hnc, hcm, _⟩ := own_row h2
  unfold maxLen at hcm
  have hst : E1I b l (.slice p l.length c) J (.int .i64 (0 : Nat)) W := ⟨0, _, _, Nat.zero_le _, rfl, h0, h1, h2, fun j hj => hj, Nat.le_refl _⟩
  have HST := hid hst
  have HY := hid hY
  clear hst h0 hh ho h1 h2 hJ hJx hY
  show CallsIn Fence.wide n Try.prog 40 #[.func (.yield lp) #[] #[], .pointer (some ⟨b, 0, none⟩)] W _
  refine callsIn_of_wp Try.func40 rfl (show Fence.wide.fn 40 from trivial) ?_ rfl
  simp only [Try.ntmps40, List.size_toArray, List.length_cons, List.length_nil, Nat.reduceAdd, Nat.reduceSub, Array.replicate_succ, Array.replicate_zero, List.push_toArray, List.append_toArray, List.nil_append, List.cons_append]
  gi_wp2
  gi_loopw [7] (fun i wr => E1I b l (.slice p l.length c) J i wr) (fun i _ => l.length - (intOf i).toNat)
  case atStart => exact HST.out
  case round =>
    clear HST hc0
    obtain ⟨k, T, hs, hk, rfl, hJ0, hB, hO, hT, hhs⟩ := hrel
    have HJ0 := hid hJ0
    have HB := hid hB
    have HO := hid hO
    have HT := hid hT
    clear hJ0 hB hO hT
    by_cases hlt : k < l.length
    · have hltI : (k : Int) < l.length := by omega
      obtain ⟨p', c', e', _, _, hrow, _⟩ := own_row HO.out
      cases e'
      obtain ⟨g, o, rfl, hbz, hc⟩ := hrow.at (by simpa using (by omega : 0 < l.length))
      have hcell := hc k (by simpa using hlt)
      simp only [List.getElem_map] at hcell
      have HTK := hid (take_succ l k hlt)
      have hV : VE l (l.take k) hs l[k] wr := ⟨l.drop (k + 1), by rw [← take_succ l k hlt, List.take_append_drop]⟩
      obtain ⟨x, hx⟩ : ∃ x, x = l[k] := ⟨_, rfl⟩
      rw [← hx] at hcell hV HTK
      clear hx hrow hc
      obtain ⟨fn, tmps, assign, body, hy, hR⟩ := HY.out (l.take k) T hs x wr HJ0.out hV
      gi_wp2
      refine hR.mono ?_
      clear hR hy
      rintro e W3 (⟨rfl, hJ3, hk3⟩ | ⟨rfl, hJx3⟩)
      · have hz := hk3.size
        have hB3 := (hk3.same b (.inl (HT.out b (.inl rfl))) (Array.getElem?_eq_some_iff.1 HB.out).1).trans HB.out
        have hO3 : W3.ownsRow b 3 1 (.slice (some ⟨g, o, none⟩) l.length c) l.length (i64s l) := own_blk HO.out (fun j hj => hk3.same j (.inl (HT.out j (.inr hj))) (own_lt HO.out j hj))
        have HB3 := hid hB3
        have HO3 := hid hO3
        have HJ4 := hid hJ3
        clear hB3 hO3 hJ3 hk3
        gi_wp2
        go_roundw
        case rel => exact ⟨k + 1, more T hs wr, W3.heap.size, by omega, by go_num, by rw [HTK.out]; exact HJ4.out, HB3.out, HO3.out, fun j hj => Or.inl (HT.out j hj), Nat.le_refl _⟩
        case measure => simp [intOf]; omega
      · have HJ4 := hid hJx3
        clear hJx3
        gi_wp2
        refine bodyPost_ret (results_none rfl _ _ _) rfl ?_
        exact ⟨⟨_, rfl⟩, .inr ⟨_, ⟨l.drop (k + 1), by rw [← HTK.out, List.take_append_drop]⟩, HJ4.out⟩⟩
    · have hkl : k = l.length := by omega
      have HJE := HJ0.out
      rw [hkl, List.take_length] at HJE
      have HJE := hid HJE
      clear hkl
      gi_wp2
      go_end0
      exact ⟨⟨_, rfl⟩, .inl ⟨_, _, HJE.out⟩⟩
end Go.Proofs.Ythmockfeffikjaa
