/-
  The iterator over a table's names: what it yields.
-/
import Derived.Test.YtaophcndkhnbeaaEq
import Derived.Test.YtaophcndkhnbeaaRowsP
import Derived.Test.YtaophcndkhnbeaaMapIn
import Derived.Test.YtaophcndkhnbeaaOwnIn
import Derived.WalkMore
import Derived.LoopNIn
import Derived.LoopIn
import Derived.TacticsInMore
import Derived.OwnWalkIn
import Derived.Shelf.Abstract
namespace Go.Proofs.Ytaophcndkhnbeaa
open Go.RowKit
attribute [local go_sem] Oper.semAt_some
theorem wide_fn (f : FuncId) : Fence.wide.fn f = True := rfl
theorem wide_depth : Fence.wide.depth = none := rfl
attribute [local go_sem] wide_fn wide_depth

theorem Row.own_keeps {W W' : World} {p : Option Addr} {cs : List Value} {n₀ : Nat} (h : Row W p cs) (hb : Below n₀ W W') (hp : ∀ a, p = some a → a.block < n₀) : Row W' p cs := by
  intro hcs
  obtain ⟨b, f, rfl, hc⟩ := h hcs
  exact ⟨b, f, rfl, fun i hi => (hb.cell (p := ⟨b, f + i, none⟩) (hp ⟨b, f, none⟩ rfl)).trans (hc i hi)⟩

theorem nums_str (l : List UInt8) : strOfNums (l.map fun b => (b.toNat : Int)) = ⟨l.toArray⟩ := by
  have := bytesOf_nums l
  apply ByteArray.ext
  apply Array.toList_inj.1
  exact this
/-- 'string(l)'. -/
theorem conv_row {w : World} {p : Option Addr} {l : List UInt8} (h : Row w p (u8s l)) (c : Nat) : (convert 25 9 (.slice p l.length c)).run Try.prog w = .ok (.string ⟨l.toArray⟩) w := by
  rw [← nums_str]
  exact (row_bytesIn h).convert (by simp) c 25 5 9 Try.underlying25 Try.underlying5 Try.underlying9

theorem row_sub {w : World} {b o : Nat} {l : List UInt8} (h : Row w (some ⟨b, o, none⟩) (u8s l)) (i j : Nat) (hij : i ≤ l.length) : Row w (some ⟨b, o + i, none⟩) (u8s ((l.drop i).take j)) := by
  intro hne
  refine ⟨b, o + i, rfl, fun k hk => ?_⟩
  simp only [u8s, List.length_map, List.length_take, List.length_drop] at hk
  have := h.cell (i + k) (by simp [u8s]; omega)
  rw [← Nat.add_assoc] at this
  rw [this]
  simp [u8s]

/-- bytes.IndexByte(l, 0). -/
theorem idx0_row {b o c : Nat} (l : List UInt8) (w : World) (h : Row w (some ⟨b, o, none⟩) (u8s l)) :
    Calls Try.prog 36 #[.slice (some ⟨b, o, none⟩) l.length c, .int .u8 0] w fun e w' => e = .returned (.int .i64 (Lib.indexByte l 0)) ∧ w' = w := by
  have := Try.bytes_IndexByte b o l.length c (l.map fun b => (b.toNat : Int)) 0 w (by simp) (fun i hi => by
    have := h.cell i (by simpa [u8s] using hi)
    rw [this]
    simp [u8s, List.getD, hi])
  rw [bytesOf_nums] at this
  exact this

theorem idx_split (l : List UInt8) : (Lib.indexByte l 0 < 0 ∧ ∀ b ∈ l, b ≠ 0) ∨ ∃ n : Nat, Lib.indexByte l 0 = n ∧ n < l.length ∧ (∀ b ∈ l.take n, b ≠ 0) ∧ l.drop n = 0 :: l.drop (n + 1) := by
  have hge := Lib.indexByte_ge l 0
  by_cases h : Lib.indexByte l 0 = -1
  · refine .inl ⟨by omega, ?_⟩
    intro b hb e
    obtain ⟨k, hk⟩ := List.mem_iff_getElem?.1 hb
    exact Lib.indexByte_none h k (by rw [hk, e])
  · right
    obtain ⟨n, hn⟩ : ∃ n : Nat, Lib.indexByte l 0 = n := ⟨(Lib.indexByte l 0).toNat, by omega⟩
    obtain ⟨h1, h2⟩ := Lib.indexByte_some hn
    have hlt : n < l.length := (List.getElem?_eq_some_iff.1 h1).1
    refine ⟨n, hn, hlt, ?_, ?_⟩
    · intro b hb e
      obtain ⟨k, hk⟩ := List.mem_iff_getElem?.1 hb
      rw [List.getElem?_take] at hk
      split at hk
      · rename_i hkn
        exact h2 k hkn (by rw [hk, e])
      · cases hk
    · rw [List.drop_eq_getElem_cons hlt]
      congr 1
      rw [List.getElem?_eq_getElem hlt] at h1
      exact Option.some.inj h1

theorem wrap_add {k m n s : Nat} (hs : s = k + m) (h : s ≤ n) (hn : n ≤ 1048576) : wrap64 ((k : Int) + (m : Int)) = (s : Int) := by
  unfold wrap64
  omega
def encR (x : Nat × ByteArray) : Array Value := #[.int .i64 x.1, .string x.2]
set_option maxHeartbeats 1000000 in
theorem names1_seq (n : Nat) (hn : 1 ≤ n) (tab : List UInt8) (hm : tab.length ≤ 1048576) (n₀ : Nat) (S : TypeId → Bool) (hS : S 25 = true) (b : Nat) (q : Option Addr) (c : Nat) (hqc : tab.length ≤ c) (w : World) (hbw : w.heap[b]? = some (.cells #[.slice q tab.length c] 25 (0, 0))) (hn0 : n₀ ≤ w.heap.size) (hrow : Row w q (u8s tab)) (hq : ∀ a, q = some a → a.block < n₀) :
    SeqO Fence.wide n Try.prog 35 #[.pointer (some ⟨b, 0, none⟩)] encR (KpT n₀ S) (fun ys => ys = rowsP tab) (fun pre => ∃ suf, pre ++ suf = rowsP tab) (rowsP tab).length w := by
  intro l J Jx W hW hJ hJx hY h0
  have hblt : b < w.heap.size := (Array.getElem?_eq_some_iff.1 hbw).1
  have hbW := (hW.block b hblt).trans hbw
  have hszW := hW.size
  have hr0 : Row W q (u8s tab) := hrow.below hW
  have HR0 : Hid (pieces (tab.drop 1) 1 [] = rowsP tab) := rfl
  show CallsIn Fence.wide n Try.prog 35 #[.func (.yield l) #[] #[], .pointer (some ⟨b, 0, none⟩)] W _
  refine callsIn_of_wp Try.func35 rfl (show Fence.wide.fn 35 from trivial) ?_ rfl
  simp only [Try.ntmps35, List.size_toArray, List.length_cons, List.length_nil, Nat.reduceAdd, Nat.reduceSub, Array.replicate_succ, Array.replicate_zero, List.push_toArray, List.append_toArray, List.nil_append, List.cons_append]
  gi_wp2
  gi_loopw [3] (fun i wr => ∃ (k : Nat) (pre : List (Nat × ByteArray)), 1 ≤ k ∧ (k ≤ tab.length ∨ k = 1) ∧ i = .int .i64 k ∧ J pre wr ∧ pre ++ pieces (tab.drop k) k [] = rowsP tab ∧ Below n₀ W wr ∧ wr.heap[b]? = some (.cells #[.slice q tab.length c] 25 (0, 0))) (fun i _ => tab.length - (intOf i).toNat)
  case atStart => exact ⟨1, [], Nat.le_refl _, .inr rfl, rfl, h0, HR0.out, Below.refl _ _, hbW⟩
  case round =>
    obtain ⟨k, pre, hk1, hk, rfl, hJs, hP, hnx, hbx⟩ := hrel
    have HP := hid hP
    have HBX := hid hbx
    have hcb := cell_of_row wr b 0 _ _ _ hbx
    simp at hcb
    clear hP hbx hbW
    by_cases hlt : k < tab.length
    · have hrk := hr0.own_keeps hnx hq
      obtain ⟨rb, ro, rfl, _, _⟩ := hrk.at (by simp [u8s]; omega)
      have hrd : Row wr (some ⟨rb, ro + k, none⟩) (u8s (tab.drop k)) := by
        have := row_sub hrk k (tab.length - k) (by omega)
        rwa [List.take_of_length_le (by simp)] at this
      have HI := hid (idx0_row (c := c - k) (tab.drop k) wr hrd)
      simp only [List.length_drop] at HI
      rcases idx_split (tab.drop k) with ⟨h1, h2⟩ | ⟨m, h1, h2, h3, h4⟩
      · have HA : Hid (pre = rowsP tab) := by
          have := HP.out
          rw [pieces_none _ h2, List.append_nil] at this
          exact this
        clear h2 HP hY
        generalize Lib.indexByte (tab.drop k) 0 = ix at *
        gi_wp2_with (gi_at_call 36; refine (callsIn_wide.2 HI.out).mono ?_; rintro e w2 ⟨rfl, rfl⟩)
        refine bodyPost_ret (results_none rfl _ _ _) rfl ?_
        exact ⟨⟨_, rfl⟩, .inl ⟨_, HA.out, hJs⟩⟩
      · have hx : (List.take m (List.drop k tab)).length = m := by rw [List.length_take]; omega
        simp only [List.length_drop] at h2
        have hcv := conv_row (row_sub hrk k m (by omega)) (c - k)
        rw [hx] at hcv
        obtain ⟨s, hs⟩ : ∃ s, s = k + m := ⟨_, rfl⟩
        have hsk : s - k = m := by omega
        have hsl : s ≤ tab.length := by omega
        have HW : Hid (wrap64 ((k : Int) + (m : Int)) = (s : Int)) := wrap_add hs hsl hm
        have hb1 : (s : Int) ≤ c := by omega
        have hb2 : (k : Int) ≤ s := by omega
        have HS : Hid (pre ++ (k, ⟨(List.take m (List.drop k tab)).toArray⟩) :: pieces (tab.drop (k + (m + 1))) (k + (m + 1)) [] = rowsP tab) := by
          have := HP.out
          rw [← List.take_append_drop m (List.drop k tab), pieces_run _ h3, h4, pieces_zero] at this
          simp only [List.nil_append, hx, List.drop_drop, Nat.add_assoc] at this
          exact this
        have hlen : pre.length < (rowsP tab).length := by rw [← HS.out]; simp
        obtain ⟨fn, tmps, assign, body, hy, hR⟩ := hY pre (k, ⟨(List.take m (List.drop k tab)).toArray⟩) wr hJs hlen
        have H4 := hid h4
        clear h3 h4 hx HP hY
        generalize (⟨(List.take m (List.drop k tab)).toArray⟩ : ByteArray) = x at *
        generalize Lib.indexByte (tab.drop k) 0 = ix at *
        subst h1
        simp only [encR] at hy
        have HB1 := hid hb1
        have HB2 := hid hb2
        have HSK := hid hsk
        clear hb1 hb2 hsk hsl
        gi_wp2_with (gi_at_call 36; refine (callsIn_wide.2 HI.out).mono ?_; rintro e w2 ⟨rfl, rfl⟩)
        refine hR.mono ?_
        rintro e W3 ⟨(⟨rfl, hJ3, hk3⟩ | ⟨rfl, hJx3⟩), _⟩
        · have hb3 := hk3.2.2 _ _ _ _ hS HBX.out
          gi_wp2
          go_roundw
          case rel => 
            refine ⟨k + (m + 1), pre ++ [(k, x)], by omega, .inl (by omega), ?_, hJ3, by rw [List.append_assoc]; exact HS.out, hnx.trans hk3.1, hb3⟩
            go_num
          case measure => simp [intOf]; omega
        · gi_wp2
          refine bodyPost_ret (results_none rfl _ _ _) rfl ?_
          exact ⟨⟨_, rfl⟩, .inr ⟨_, ⟨pieces (tab.drop (k + (m + 1))) (k + (m + 1)) [], by rw [List.append_assoc]; exact HS.out⟩, hJx3⟩⟩
    · have HA : Hid (pre = rowsP tab) := by
        have := HP.out
        rw [List.drop_of_length_le (by omega)] at this
        show pre = rowsP tab
        simpa [pieces] using this
      gi_wp2
      go_end0
      exact ⟨⟨_, rfl⟩, .inl ⟨_, HA.out, hJs⟩⟩
end Go.Proofs.Ytaophcndkhnbeaa
