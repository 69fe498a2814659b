/-
  The walk of the function that All of the code's memory hands back.
-/
import Derived.Test.YthmockfeffikjaaMem9
import Derived.Test.YthmockfeffikjaaRange
import Derived.LoopIn
import Derived.TacticsInMore
import Derived.LoopNIn
import Derived.Shelf.Abstract
import Derived.WalkMore
namespace Go.Proofs.Ythmockfeffikjaa
open Go.RowKit
attribute [local go_sem] Oper.semAt_some
theorem wide_fnM (f : FuncId) : Fence.wide.fn f = True := rfl
theorem wide_depthM : Fence.wide.depth = none := rfl
attribute [local go_sem] wide_fnM wide_depthM
variable {w : World} {base b : Nat} {v : Value} {zs : List CeR} {cs : List Ce} {fp : Nat → Prop}

def encC (y : Int × CeR) : Array Value := #[i64 y.1, y.2.x.val y.2.p y.2.c]
/-- What All's function tells of each value. -/
def VM (cs : List Ce) (pre : List (Int × CeR)) (hs : Nat) (y : Int × CeR) (W : World) : Prop :=
  y.1 = pre.length ∧ (∃ suf, (pre ++ [y]).map (·.2.x) ++ suf = cs) ∧ SlAt W y.2.p y.2.c y.2.x.came ∧ ∀ q, y.2.p = some q → hs ≤ q.block ∧ q.block < W.heap.size
theorem vm_mk {cs : List Ce} {pre : List (Int × CeR)} {hs k B : Nat} {w3 : World} {x : Ce} {p : Option Addr} {c : Nat} (h1 : pre.length = k) (h2 : pre.map (·.2.x) = cs.take k) (h3 : cs.take k ++ [x] ++ cs.drop (k + 1) = cs)
    (ho : w3.ownsRow B 3 1 (.slice p x.came.length c) x.came.length (i64s x.came)) (hz : hs ≤ B) : VM cs pre hs ((k : Int), ⟨x, p, c⟩) w3 :=
  ⟨by rw [h1], ⟨cs.drop (k + 1), by rw [List.map_append, h2]; exact h3⟩, own_slat ho, fun q hq => ⟨by have := own_ge ho q.block (by subst hq; rfl); omega, own_lt ho q.block (by subst hq; rfl)⟩⟩
def StM (W W' : World) : Prop := Below W.heap.size W W'
def A1I (base b : Nat) (v : Value) (zs : List CeR) (cs : List Ce) (fp : Nat → Prop) (J : List (Int × CeR) → (Nat → Prop) → Nat → World → Prop) (i : Value) (wr : World) : Prop :=
  ∃ (k : Nat) (pre : List (Int × CeR)) (T : Nat → Prop) (hs : Nat), k ≤ zs.length ∧ i = .int .i64 k ∧ pre.length = k ∧ pre.map (·.2.x) = cs.take k ∧ J pre T hs wr ∧ MemIs wr base b hdL v zs ⟨cs, 0⟩ fp ∧ (∀ j, fp j → T j) ∧ hs ≤ wr.heap.size

set_option maxHeartbeats 2000000 in
theorem all1_seq (n : Nat) (hn : 1 ≤ n) (H : MemIs w base b hdL v zs ⟨cs, 0⟩ fp) (hlen : cs.length ≤ 1000000) :
    SeqV Fence.wide n Try.prog 53 #[.pointer (some ⟨b, 0, none⟩)] encC (VM cs) StM fp (fun ys => ys.map (·.2.x) = cs) (fun pre => ∃ suf, pre.map (·.2.x) ++ suf = cs) w := by
  intro l J Jx W hW hJ hJx hY h0
  have H1 := H.below hW
  have hl1 := H1.len
  dsimp only at hl1
  rw [hl1] at hlen
  have hcsE := H1.cs
  dsimp only at hcsE
  have hc0 : W.cell? ⟨b, 0, none⟩ = some v := cell_of_row _ _ 0 _ _ _ H1.head
  obtain ⟨p, c, rfl, hnc, hcm, _, _, _⟩ := own_row H1.own
  unfold maxLen at hcm
  show CallsIn Fence.wide n Try.prog 53 #[.func (.yield l) #[] #[], .pointer (some ⟨b, 0, none⟩)] W _
  refine callsIn_of_wp Try.func53 rfl (show Fence.wide.fn 53 from trivial) ?_ rfl
  simp only [Try.ntmps53, List.size_toArray, List.length_cons, List.length_nil, Nat.reduceAdd, Nat.reduceSub, Array.replicate_succ, Array.replicate_zero, List.push_toArray, List.append_toArray, List.nil_append, List.cons_append]
  have hst : A1I base b (.slice p zs.length c) zs cs fp J (.int .i64 (0 : Nat)) W := ⟨0, [], fp, W.heap.size, Nat.zero_le _, rfl, rfl, rfl, h0, H1, fun _ h => h, Nat.le_refl _⟩
  have HST := hid hst
  have HCS := hid hcsE
  have HJ := hid hJ
  have HY := hid hY
  clear hst H1 H h0 hl1 hcsE hJ hY hJx
  gi_wp2
  gi_loopw [7] (fun i wr => A1I base b (.slice p zs.length c) zs cs fp J i wr) (fun i _ => zs.length - (intOf i).toNat)
  case atStart => exact HST.out
  case round =>
    clear HST hc0
    obtain ⟨k, pre, T, hs, hk, rfl, hpl, hpm, hJ0, HM, hfT, hhs⟩ := hrel
    have HMM := hid HM
    have HPL := hid hpl
    have HPM := hid hpm
    have HJ0 := hid hJ0
    have HFT := hid hfT
    clear hpl hpm hJ0 hfT
    by_cases hlt : k < zs.length
    · have hltI : (k : Int) < zs.length := by omega
      have hmem := List.getElem_mem hlt
      have hsl := HM.sl _ hmem
      have hcm' := ok_came (HM.ok _ hmem)
      obtain ⟨p', c', e', _, _, hrow, _⟩ := own_row HM.own
      cases e'
      obtain ⟨g, o, rfl, hbz, _⟩ := hrow.at (by rw [ceRow_len]; omega)
      obtain ⟨r0, r1, r2, r3, r4, r5, r6⟩ := ce_cells hrow k hlt
      obtain ⟨y, hy⟩ : ∃ y, y = zs[k] := ⟨_, rfl⟩
      rw [← hy] at r0 r1 r2 r3 r4 r5 r6 hsl hcm'
      have HSUF : Hid (cs.take k ++ [y.x] ++ cs.drop (k + 1) = cs) := by
        have hkc : k < cs.length := by rw [HCS.out, List.length_map]; exact hlt
        have e : cs[k] = y.x := by simp only [HCS.out, List.getElem_map, hy]
        rw [← e, List.append_assoc]
        show cs.take k ++ cs[k] :: cs.drop (k + 1) = cs
        rw [← List.drop_eq_getElem_cons, List.take_append_drop]
      have HTK : Hid (cs.take k ++ [y.x] = cs.take (k + 1)) := by
        have hkc : k < cs.length := by rw [HCS.out, List.length_map]; exact hlt
        have e : cs[k] = y.x := by simp only [HCS.out, List.getElem_map, hy]
        rw [← e, Hid, ← take_succ cs k hkc]
      have HCP := hid (fun w1 (hb : Below wr.heap.size wr w1) => copied_any y.x y.p y.c w1 (by omega) (hsl.below hb))
      clear hsl hmem hrow hy HM
      obtain ⟨⟨kind, m, owner, need, came, turns, there⟩, yp, yc⟩ := y
      unfold CopyTell Ce.val at HCP
      dsimp only at *
      gi_wp2_with (gi_at_call 47; go_loud (refine (callsIn_wide.2 (HCP.out _ ((Below.refl _ wr).alloc (Nat.le_refl _) _))).mono ?_); rintro e w3 ⟨p3, c3, rfl, ho3, hb3⟩; have hb3' : Below wr.heap.size wr w3 := (((Below.refl _ wr).alloc (Nat.le_refl _) _).trans (hb3.mono (by simp))); have hsz3 : wr.heap.size ≤ w3.heap.size := hb3'.size; have HO3 := hid ho3; go_loud (have hV := vm_mk (x := ⟨kind, m, owner, need, came, turns, there⟩) HPL.out HPM.out HSUF.out (own_lower (base' := wr.heap.size) ho3 (by simp)) hhs); go_loud (obtain ⟨fn, tmps, assign, body, hy, hR⟩ := HY.out pre T hs (k, ⟨⟨kind, m, owner, need, came, turns, there⟩, p3, c3⟩) w3 (HJ.out _ _ _ _ _ HJ0.out hb3') hV); unfold encC Ce.val at hy; dsimp only at hy; have HB3 := hid hb3'; clear hb3 hb3' ho3 hV)
      refine hR.mono ?_
      clear hR hy
      have HM3 := hid (HMM.out.below HB3.out)
      have HSPL : Hid ((pre ++ [((k : Int), CeR.mk ⟨kind, m, owner, need, came, turns, there⟩ p3 c3)]).map (·.2.x) = cs.take (k + 1)) := by
        rw [Hid, List.map_append, HPM.out]; exact HTK.out
      rintro e W3 (⟨rfl, hJ3, hk3⟩ | ⟨rfl, hJx3⟩)
      · have hM4 := HM3.out.kept (W' := W3) (fun j hj => hk3.same j (.inl (HFT.out j hj)) (HM3.out.lt j hj)) hk3.size
        have HM4 := hid hM4
        have HJ4 := hid hJ3
        clear hM4 hJ3 hk3
        gi_wp2
        go_roundw
        case rel => exact ⟨k + 1, _, _, _, by omega, by go_num, by rw [List.length_append, HPL.out]; rfl, HSPL.out, HJ4.out, HM4.out, fun j hj => .inl (HFT.out j hj), Nat.le_refl _⟩
        case measure => simp [intOf]; omega
      · have HJ4 := hid hJx3
        clear hJx3
        gi_wp2
        refine bodyPost_ret (results_none rfl _ _ _) rfl ?_
        exact ⟨⟨_, rfl⟩, .inr ⟨_, ⟨cs.drop (k + 1), by rw [HSPL.out, List.take_append_drop]⟩, HJ4.out⟩⟩
    · have hkl : k = zs.length := by omega
      have hend : pre.map (·.2.x) = cs := by
        rw [HPM.out, hkl]
        have : zs.length = cs.length := by rw [HCS.out, List.length_map]
        rw [this, List.take_length]
      have HEND := hid hend
      clear hend
      gi_wp2
      go_end0
      exact ⟨⟨_, rfl⟩, .inl ⟨_, _, _, HEND.out, HJ0.out⟩⟩
end Go.Proofs.Ythmockfeffikjaa
