/-
 Check: which histories may be, the document's.
 get and apply of the document.
-/
import Derived.Test.YtabkmdhkfbcldaaGreatJL13
import Derived.Test.YtabkmdhkfbcldaaGreatJL16
import Derived.Test.YtabkmdhkfbcldaaGreatJL14
import Derived.Deep.DeepCutAuto
import Derived.Test.YtabkmdhkfbcldaaGreatJL12
namespace Go.Proofs.YtabkmdhkfbcldaaGreat
open Go.RowKit
def rowOk1 (l : List Cl) (a k : Nat) : Prop := ∀ b, b < k → (cAt l a).w = (cAt l b).w → either (cAt l a) (cAt l b)
def rowsOk (l : List Cl) (i : Nat) : Prop := ∀ a, a < i → rowOk1 l a a
theorem rowOk1_succ {l : List Cl} {a k : Nat} (h : rowOk1 l a k) (h1 : (cAt l a).w = (cAt l k).w → either (cAt l a) (cAt l k)) : rowOk1 l a (k + 1) := fun b hb => by
 by_cases e : b = k
 ·subst e; exact h1
 ·exact h b (by omega)
theorem rowsOk_succ {l : List Cl} {i : Nat} (h : rowsOk l i) (h1 : rowOk1 l i i) : rowsOk l (i + 1) := fun b hb => by
 by_cases e : b = i
 ·subst e; exact h1
 ·exact h b (by omega)
theorem pairs_rows {l : List Cl} (h : rowsOk l l.length) : Pairs l := by
 unfold Pairs
 rw [List.pairwise_iff_getElem]
 intro i j hi hj hij e
 have := h j hj i hij
 rw [← cat_at l i hi, ← cat_at l j hj] at this
 exact (this e.symm).symm
theorem pairs_bad {l : List Cl} {i k : Nat} (hi : i < l.length) (hk : k < i) (e : (cAt l i).w = (cAt l k).w) (h1 : aheadC (cAt l i) (cAt l k) = false) (h2 : aheadC (cAt l k) (cAt l i) = false) : ¬ HistOk l := fun H => by
 have := List.pairwise_iff_getElem.1 H.two k i (by omega) hi hk
 rw [cat_at l i hi, cat_at l k (by omega)] at this
 rcases this e.symm with g | g
 ·rw [h2] at g; cases g
 ·rw [h1] at g; cases g
theorem either_of {a b : Cl} (e : a.w = b.w) (h : false = (decide (a.w = b.w) && !aheadC a b && !aheadC b a)) : either a b := by
 unfold either
 cases h1 : aheadC a b with
 | true => exact .inl rfl
 | false =>
  cases h2 : aheadC b a with
  | true => exact .inr rfl
  | false => rw [h1, h2] at h; simp [e] at h
theorem rahead_lit (a b : Cl) (w : World) : Calls Tryz.prog 35 #[.agg #[.int .i64 a.w, .int .i64 a.kind, .string a.key, .int .i64 a.value, .int .i64 a.fr, .int .i64 a.to, .int .i64 a.ans, .int .i64 a.err], .agg #[.int .i64 b.w, .int .i64 b.kind, .string b.key, .int .i64 b.value, .int .i64 b.fr, .int .i64 b.to, .int .i64 b.ans, .int .i64 b.err]] w fun e w' => e = .returned (.bool (aheadC a b)) ∧ Below w.heap.size w w' := rahead_any a b w
def RChkTell (l : List Cl) (w : World) (e : Ending) (w' : World) : Prop := e = .returned (.int .i64 (chkL l)) ∧ Below w.heap.size w w'
set_option maxRecDepth 20000 in
set_option maxHeartbeats 4000000 in
theorem rcheck_anyLn (l : List Cl) (p : Option Addr) (c : Nat) (w : World) (hl : l.length ≤ 1000000) (hc : l.length ≤ c) (hrow : Row w p (l.flatMap Cl.cellsLn)) :
  Calls Tryz.prog 34 #[.slice p l.length c] w (RChkTell l w) := by
 by_cases hlong : 4096 < l.length
 ·have HV := hid (chk_long hlong)
  have hlo : (4096 : Int) < (l.length : Int) := by omega
  go_enter Tryz.func34, Tryz.ntmps34
  go_wp2
  go_ret
  exact ⟨ret_int HV.out.symm, Below.refl _ _⟩
 ·have hlo : ¬ (4096 : Int) < (l.length : Int) := by omega
  have HG := hid (chk_is (l := l) (by omega))
  have HBD := hid (chk_bad (l := l) (by omega))
  have HR := hid hrow
  clear hrow hlong
  go_enter Tryz.func34, Tryz.ntmps34
  go_wp2
  go_loopw [3] (fun i wr => ∃ k : Nat, k ≤ l.length ∧ i = .int .i64 k ∧ onesTo l k ∧ Below w.heap.size w wr) (fun i _ => l.length - (intOf i).toNat)
  case atStart => exact ⟨0, Nat.zero_le _, rfl, fun j hj => by omega, Below.refl _ _⟩
  case round =>
   obtain ⟨k, hk, rfl, hon, hb⟩ := hrel
   have HON := hid hon
   have HB := hid hb
   clear hon hb
   by_cases hlt : k < l.length
   ·obtain ⟨b, o, rfl, hbw, -⟩ := (HR.out.below HB.out).at (by have := flat_len Cl.cellsLn 8 (fun _ => rfl) l; omega)
    obtain ⟨d0, d1, d2, d3, d4, d5, d6, d7⟩ := cl_cat (HR.out.below HB.out) k hlt
    have HO := hid (fun w1 => rone_anyLn (cAt l k) w1)
    have H1 := hid (fun h => one_badLn (l := l) hlt h)
    unfold Cl.cellsLn at HO
    cases h1 : oneB (cAt l k) with
    | false =>
     rw [h1] at HO
     have HV : Hid (chkL l = 260) := HBD.out (H1.out h1)
     clear h1
     go_wp2_with (go_at_call 56; (with_reducible refine (HO.out _).mono ?_); rintro e w5 ⟨rfl, hb5⟩)
     go_ret
     exact ⟨ret_int HV.out.symm, below_tr hb5 HB.out⟩
    | true =>
     rw [h1] at HO
     have HN := hid (onesTo_succ HON.out h1)
     clear h1
     go_wp2_with (go_at_call 56; (with_reducible refine (HO.out _).mono ?_); rintro e w5 ⟨rfl, hb5⟩)
     exact ⟨⟨k + 1, by omega, by go_num, HN.out, below_tr hb5 HB.out⟩, by simp [intOf]; omega⟩
   ·have hke : k = l.length := by omega
    subst hke
    have HOA := hid (ones_all HON.out)
    go_wp2
    go_loopw [4] (fun i wr => ∃ k : Nat, k ≤ l.length ∧ i = .int .i64 k ∧ rowsOk l k ∧ Below w.heap.size w wr) (fun i _ => l.length - (intOf i).toNat)
    case atStart => exact ⟨0, Nat.zero_le _, rfl, fun j hj => by omega, HB.out⟩
    case round =>
     obtain ⟨i, hi, rfl, hro, hb⟩ := hrel
     have HRO := hid hro
     have HB := hid hb
     clear hro hb
     by_cases hlt : i < l.length
     ·go_wp2
      go_loopw [5] (fun u wr => ∃ k : Nat, k ≤ i ∧ u = .int .i64 k ∧ rowOk1 l i k ∧ Below w.heap.size w wr) (fun u _ => i - (intOf u).toNat)
      case atStart => exact ⟨0, Nat.zero_le _, rfl, fun j hj => by omega, HB.out⟩
      case round =>
       obtain ⟨k, hk, rfl, hr1, hb⟩ := hrel
       have HR1 := hid hr1
       have HB := hid hb
       clear hr1 hb
       by_cases hlt2 : k < i
       ·have hkl : k < l.length := by omega
        obtain ⟨b, o, rfl, hbw, -⟩ := (HR.out.below HB.out).at (by have := flat_len Cl.cellsLn 8 (fun _ => rfl) l; omega)
        obtain ⟨a0, a1, a2, a3, a4, a5, a6, a7⟩ := cl_held (HR.out.below HB.out) i hlt
        obtain ⟨d0, d1, d2, d3, d4, d5, d6, d7⟩ := cl_held (HR.out.below HB.out) k hkl
        have HA := hid (fun w1 => rahead_lit (cAt l i) (cAt l k) w1)
        have HA2 := hid (fun w1 => rahead_lit (cAt l k) (cAt l i) w1)
        have HN := hid (fun h => rowOk1_succ HR1.out (k := k) h)
        have HBB := hid (fun e h1 h2 => pairs_bad hlt hlt2 e h1 h2)
        have hq1 : decide ((i : Int) < 0) = false := decide_eq_false (by omega)
        have hq2 : decide ((l.length : Int) ≤ (i : Int)) = false := decide_eq_false (by omega)
        have hq3 : decide (l.length ≤ i) = false := decide_eq_false (by omega)
        have hx1 : decide ((k : Int) < 0) = false := decide_eq_false (by omega)
        have hx2 : decide ((l.length : Int) ≤ (k : Int)) = false := decide_eq_false (by omega)
        have hx3 : decide (l.length ≤ k) = false := decide_eq_false (by omega)
        obtain ⟨V, hV⟩ : ∃ V, V = (decide ((cAt l i).w = (cAt l k).w) && !aheadC (cAt l i) (cAt l k) && !aheadC (cAt l k) (cAt l i)) := ⟨_, rfl⟩
        have HV := hid hV
        clear hV
        go_upto_region 14 with (fail)
        go_cut [66] from 32 to 66 (fun v wx => v = .bool V ∧ Below wr.heap.size wr wx)
        case first =>
         by_cases hw : (cAt l i).w = (cAt l k).w
         ·rw [hw] at a0 HA HA2
          cases h1 : aheadC (cAt l i) (cAt l k) with
          | true =>
           rw [h1] at HA
           have HVV : Hid (V = false) := by unfold Hid; rw [HV.out, h1]; simp
           clear h1 hw
           refine wp_region_held_drew (S := fun w' => Below wr.heap.size wr w') (by kernel_rfl) ((Below.refl _ _).drew) (fun hHeld => ?_)
           refine wpAnyH_take (i := 0) (oi := { dst := some 32, op := Op.move (Operand.tmp 0), type := 32, pos := "ref.go:33", after := #[], guard := none }) (v := ?rav0) rfl (by kernel_rfl) (by kernel_rfl) (by kernel_rfl) (fun _ _ _ h => h) (Or.inl ⟨by rfl, ?rah0⟩) (by assumption) ?rar0
           case rah0 => ((intro w hSw; (try dsimp only at hSw); go_simp); try with_reducible rfl)
           try simp only [Act.put, List.setIfInBounds_toArray, List.set_cons_zero, List.set_cons_succ]
           refine wpAnyH_take (i := 1) (oi := { dst := some 33, op := Op.move (Operand.tmp 4), type := 3, pos := "ref.go:33", after := #[], guard := none }) (v := ?rav1) rfl (by kernel_rfl) (by kernel_rfl) (by kernel_rfl) (fun _ _ _ h => h) (Or.inl ⟨by rfl, ?rah1⟩) (by assumption) ?rar1
           case rah1 => ((intro w hSw; (try dsimp only at hSw); go_simp); try with_reducible rfl)
           try simp only [Act.put, List.setIfInBounds_toArray, List.set_cons_zero, List.set_cons_succ]
           refine wpAnyH_take (i := 2) (oi := { dst := some 34, op := Op.indexAddr 32 (Operand.tmp 32) (Operand.tmp 33), type := 0, pos := "ref.go:33", after := #[{ on := 0, ground := Ground.data }, { on := 1, ground := Ground.data }], guard := none }) (v := ?rav2) rfl (by kernel_rfl) (by kernel_rfl) (by kernel_rfl) (fun _ _ _ h => h) (Or.inl ⟨by rfl, ?rah2⟩) (by assumption) ?rar2
           case rah2 => ((intro w hSw; (try dsimp only at hSw); go_simp); try with_reducible rfl)
           try simp only [Act.put, List.setIfInBounds_toArray, List.set_cons_zero, List.set_cons_succ]
           refine wpAnyH_take (i := 3) (oi := { dst := some 35, op := Op.fieldAddr 35 (Operand.tmp 34) 0, type := 0, pos := "ref.go:33", after := #[{ on := 2, ground := Ground.data }], guard := none }) (v := ?rav3) rfl (by kernel_rfl) (by kernel_rfl) (by kernel_rfl) (fun _ _ _ h => h) (Or.inl ⟨by rfl, ?rah3⟩) (by assumption) ?rar3
           case rah3 => ((intro w hSw; (try dsimp only at hSw); go_simp); try with_reducible rfl)
           try simp only [Act.put, List.setIfInBounds_toArray, List.set_cons_zero, List.set_cons_succ]
           refine wpAnyH_take (i := 4) (oi := { dst := some 36, op := Op.load 3 (Operand.tmp 35), type := 3, pos := "ref.go:33", after := #[{ on := 3, ground := Ground.data }], guard := none }) (v := ?rav4) rfl (by kernel_rfl) (by kernel_rfl) (by kernel_rfl) (fun _ _ _ h => h) (Or.inl ⟨by rfl, ?rah4⟩) (by assumption) ?rar4
           case rah4 => ((intro w hSw; (try dsimp only at hSw); go_simp); try with_reducible rfl)
           try simp only [Act.put, List.setIfInBounds_toArray, List.set_cons_zero, List.set_cons_succ]
           refine wpAnyH_take (i := 5) (oi := { dst := some 37, op := Op.move (Operand.tmp 0), type := 32, pos := "ref.go:33", after := #[], guard := none }) (v := ?rav5) rfl (by kernel_rfl) (by kernel_rfl) (by kernel_rfl) (fun _ _ _ h => h) (Or.inl ⟨by rfl, ?rah5⟩) (by assumption) ?rar5
           case rah5 => ((intro w hSw; (try dsimp only at hSw); go_simp); try with_reducible rfl)
           try simp only [Act.put, List.setIfInBounds_toArray, List.set_cons_zero, List.set_cons_succ]
           refine wpAnyH_take (i := 6) (oi := { dst := some 38, op := Op.move (Operand.tmp 5), type := 3, pos := "ref.go:33", after := #[], guard := none }) (v := ?rav6) rfl (by kernel_rfl) (by kernel_rfl) (by kernel_rfl) (fun _ _ _ h => h) (Or.inl ⟨by rfl, ?rah6⟩) (by assumption) ?rar6
           case rah6 => ((intro w hSw; (try dsimp only at hSw); go_simp); try with_reducible rfl)
           try simp only [Act.put, List.setIfInBounds_toArray, List.set_cons_zero, List.set_cons_succ]
           refine wpAnyH_take (i := 7) (oi := { dst := some 39, op := Op.indexAddr 32 (Operand.tmp 37) (Operand.tmp 38), type := 0, pos := "ref.go:33", after := #[{ on := 5, ground := Ground.data }, { on := 6, ground := Ground.data }], guard := none }) (v := ?rav7) rfl (by kernel_rfl) (by kernel_rfl) (by kernel_rfl) (fun _ _ _ h => h) (Or.inl ⟨by rfl, ?rah7⟩) (by assumption) ?rar7
           case rah7 => ((intro w hSw; (try dsimp only at hSw); go_simp); try with_reducible rfl)
           try simp only [Act.put, List.setIfInBounds_toArray, List.set_cons_zero, List.set_cons_succ]
           refine wpAnyH_take (i := 8) (oi := { dst := some 40, op := Op.fieldAddr 35 (Operand.tmp 39) 0, type := 0, pos := "ref.go:33", after := #[{ on := 7, ground := Ground.data }], guard := none }) (v := ?rav8) rfl (by kernel_rfl) (by kernel_rfl) (by kernel_rfl) (fun _ _ _ h => h) (Or.inl ⟨by rfl, ?rah8⟩) (by assumption) ?rar8
           case rah8 => ((intro w hSw; (try dsimp only at hSw); go_simp); try with_reducible rfl)
           try simp only [Act.put, List.setIfInBounds_toArray, List.set_cons_zero, List.set_cons_succ]
           refine wpAnyH_take (i := 9) (oi := { dst := some 41, op := Op.load 3 (Operand.tmp 40), type := 3, pos := "ref.go:33", after := #[{ on := 8, ground := Ground.data }], guard := none }) (v := ?rav9) rfl (by kernel_rfl) (by kernel_rfl) (by kernel_rfl) (fun _ _ _ h => h) (Or.inl ⟨by rfl, ?rah9⟩) (by assumption) ?rar9
           case rah9 => ((intro w hSw; (try dsimp only at hSw); go_simp); try with_reducible rfl)
           try simp only [Act.put, List.setIfInBounds_toArray, List.set_cons_zero, List.set_cons_succ]
           refine wpAnyH_take (i := 10) (oi := { dst := some 42, op := Op.binOp BinOp.eql 3 (Operand.tmp 36) (Operand.tmp 41) 3, type := 4, pos := "ref.go:33", after := #[{ on := 4, ground := Ground.data }, { on := 9, ground := Ground.data }], guard := none }) (v := ?rav10) rfl (by kernel_rfl) (by kernel_rfl) (by kernel_rfl) (fun _ _ _ h => h) (Or.inl ⟨by rfl, ?rah10⟩) (by assumption) ?rar10
           case rah10 => ((intro w hSw; (try dsimp only at hSw); go_simp); try with_reducible rfl)
           try simp only [Act.put, List.setIfInBounds_toArray, List.set_cons_zero, List.set_cons_succ]
           refine wpAnyH_take (i := 11) (oi := { dst := some 43, op := Op.move (Operand.tmp 42), type := 4, pos := "ref.go:33", after := #[{ on := 10, ground := Ground.data }], guard := none }) (v := ?rav11) rfl (by kernel_rfl) (by kernel_rfl) (by kernel_rfl) (fun _ _ _ h => h) (Or.inl ⟨by rfl, ?rah11⟩) (by assumption) ?rar11
           case rah11 => ((intro w hSw; (try dsimp only at hSw); go_simp); try with_reducible rfl)
           try simp only [Act.put, List.setIfInBounds_toArray, List.set_cons_zero, List.set_cons_succ]
           refine wpAnyH_take (i := 12) (oi := { dst := some 44, op := Op.move (Operand.tmp 0), type := 32, pos := "ref.go:33", after := #[{ on := 11, ground := Ground.guard }], guard := some (11, true) }) (v := ?rav12) rfl (by kernel_rfl) (by kernel_rfl) (by kernel_rfl) (fun _ _ _ h => h) (Or.inl ⟨by rfl, ?rah12⟩) (by assumption) ?rar12
           case rah12 => ((intro w hSw; (try dsimp only at hSw); go_simp); try with_reducible rfl)
           try simp only [Act.put, List.setIfInBounds_toArray, List.set_cons_zero, List.set_cons_succ]
           refine wpAnyH_take (i := 13) (oi := { dst := some 45, op := Op.move (Operand.tmp 4), type := 3, pos := "ref.go:33", after := #[{ on := 11, ground := Ground.guard }], guard := some (11, true) }) (v := ?rav13) rfl (by kernel_rfl) (by kernel_rfl) (by kernel_rfl) (fun _ _ _ h => h) (Or.inl ⟨by rfl, ?rah13⟩) (by assumption) ?rar13
           case rah13 => ((intro w hSw; (try dsimp only at hSw); go_simp); try with_reducible rfl)
           try simp only [Act.put, List.setIfInBounds_toArray, List.set_cons_zero, List.set_cons_succ]
           refine wpAnyH_take (i := 14) (oi := { dst := some 46, op := Op.indexAddr 32 (Operand.tmp 44) (Operand.tmp 45), type := 0, pos := "ref.go:33", after := #[{ on := 12, ground := Ground.data }, { on := 13, ground := Ground.data }, { on := 11, ground := Ground.guard }], guard := some (11, true) }) (v := ?rav14) rfl (by kernel_rfl) (by kernel_rfl) (by kernel_rfl) (fun _ _ _ h => h) (Or.inl ⟨by rfl, ?rah14⟩) (by assumption) ?rar14
           case rah14 => ((intro w hSw; (try dsimp only at hSw); go_simp); try with_reducible rfl)
           try simp only [Act.put, List.setIfInBounds_toArray, List.set_cons_zero, List.set_cons_succ]
           refine wpAnyH_take (i := 15) (oi := { dst := some 47, op := Op.load 35 (Operand.tmp 46), type := 35, pos := "ref.go:33", after := #[{ on := 14, ground := Ground.data }, { on := 11, ground := Ground.guard }], guard := some (11, true) }) (v := ?rav15) rfl (by kernel_rfl) (by kernel_rfl) (by kernel_rfl) (fun _ _ _ h => h) (Or.inl ⟨by rfl, ?rah15⟩) (by assumption) ?rar15
           case rah15 => ((intro w hSw; (try dsimp only at hSw); go_simp); try with_reducible rfl)
           try simp only [Act.put, List.setIfInBounds_toArray, List.set_cons_zero, List.set_cons_succ]
           refine wpAnyH_take (i := 16) (oi := { dst := some 48, op := Op.move (Operand.tmp 0), type := 32, pos := "ref.go:33", after := #[{ on := 11, ground := Ground.guard }], guard := some (11, true) }) (v := ?rav16) rfl (by kernel_rfl) (by kernel_rfl) (by kernel_rfl) (fun _ _ _ h => h) (Or.inl ⟨by rfl, ?rah16⟩) (by assumption) ?rar16
           case rah16 => ((intro w hSw; (try dsimp only at hSw); go_simp); try with_reducible rfl)
           try simp only [Act.put, List.setIfInBounds_toArray, List.set_cons_zero, List.set_cons_succ]
           refine wpAnyH_take (i := 17) (oi := { dst := some 49, op := Op.move (Operand.tmp 5), type := 3, pos := "ref.go:33", after := #[{ on := 11, ground := Ground.guard }], guard := some (11, true) }) (v := ?rav17) rfl (by kernel_rfl) (by kernel_rfl) (by kernel_rfl) (fun _ _ _ h => h) (Or.inl ⟨by rfl, ?rah17⟩) (by assumption) ?rar17
           case rah17 => ((intro w hSw; (try dsimp only at hSw); go_simp); try with_reducible rfl)
           try simp only [Act.put, List.setIfInBounds_toArray, List.set_cons_zero, List.set_cons_succ]
           refine wpAnyH_take (i := 18) (oi := { dst := some 50, op := Op.indexAddr 32 (Operand.tmp 48) (Operand.tmp 49), type := 0, pos := "ref.go:33", after := #[{ on := 16, ground := Ground.data }, { on := 17, ground := Ground.data }, { on := 11, ground := Ground.guard }], guard := some (11, true) }) (v := ?rav18) rfl (by kernel_rfl) (by kernel_rfl) (by kernel_rfl) (fun _ _ _ h => h) (Or.inl ⟨by rfl, ?rah18⟩) (by assumption) ?rar18
           case rah18 => ((intro w hSw; (try dsimp only at hSw); go_simp); try with_reducible rfl)
           try simp only [Act.put, List.setIfInBounds_toArray, List.set_cons_zero, List.set_cons_succ]
           refine wpAnyH_take (i := 19) (oi := { dst := some 51, op := Op.load 35 (Operand.tmp 50), type := 35, pos := "ref.go:33", after := #[{ on := 18, ground := Ground.data }, { on := 11, ground := Ground.guard }], guard := some (11, true) }) (v := ?rav19) rfl (by kernel_rfl) (by kernel_rfl) (by kernel_rfl) (fun _ _ _ h => h) (Or.inl ⟨by rfl, ?rah19⟩) (by assumption) ?rar19
           case rah19 => ((intro w hSw; (try dsimp only at hSw); go_simp); try with_reducible rfl)
           try simp only [Act.put, List.setIfInBounds_toArray, List.set_cons_zero, List.set_cons_succ]
           refine wpAnyH_ready (rs := [20]) (by kernel_rfl) (by simp) ?_
           refine AllReadyH.cons (o := { dst := some 52, op := Op.call { callee := Callee.value (Operand.func 35), args := #[Operand.tmp 47, Operand.tmp 51], argTypes := #[35, 35] }, type := 4, pos := "ref.go:33", after := #[{ on := 15, ground := Ground.data }, { on := 19, ground := Ground.data }, { on := 11, ground := Ground.chain }, { on := 11, ground := Ground.guard }], guard := some (11, true) }) rfl (fun K hK => ?_) AllReadyH.nil
           go_simp
           (go_at_call 35; with_reducible refine (HA.out _).mono ?_; rintro e w' ⟨rfl, hbq⟩; have hq9 : Below wr.heap.size wr w' := below_tr hbq (by assumption); clear hbq)
           refine hK.out _ _ (by assumption) (fun hHeld => ?_)
           clear hK K
           try simp only [Act.put, List.setIfInBounds_toArray, List.set_cons_zero, List.set_cons_succ]
           refine wpAnyH_take (i := 21) (oi := { dst := some 53, op := Op.unOp UnOp.not 4 (Operand.tmp 52), type := 4, pos := "ref.go:33", after := #[{ on := 20, ground := Ground.data }, { on := 11, ground := Ground.guard }], guard := some (11, true) }) (v := ?rav21) rfl (by kernel_rfl) (by kernel_rfl) (by kernel_rfl) (fun _ _ _ h => h) (Or.inl ⟨by rfl, ?rah21⟩) (by assumption) ?rar21
           case rah21 => ((intro w hSw; (try dsimp only at hSw); go_simp); try with_reducible rfl)
           try simp only [Act.put, List.setIfInBounds_toArray, List.set_cons_zero, List.set_cons_succ]
           refine wpAnyH_take (i := 22) (oi := { dst := some 54, op := Op.pick (Operand.tmp 43) (Operand.tmp 53) (Operand.const (Value.bool false)), type := 4, pos := "ref.go:33", after := #[{ on := 11, ground := Ground.data }, { on := 21, ground := Ground.data }], guard := none }) (v := ?rav22) rfl (by kernel_rfl) (by kernel_rfl) (by kernel_rfl) (fun _ _ _ h => h) (Or.inl ⟨by rfl, ?rah22⟩) (by assumption) ?rar22
           case rah22 => ((intro w hSw; (try dsimp only at hSw); go_simp); try with_reducible rfl)
           try simp only [Act.put, List.setIfInBounds_toArray, List.set_cons_zero, List.set_cons_succ]
           refine wpAnyH_take (i := 23) (oi := { dst := some 55, op := Op.move (Operand.tmp 54), type := 4, pos := "ref.go:33", after := #[{ on := 22, ground := Ground.data }, { on := 20, ground := Ground.chain }], guard := none }) (v := ?rav23) rfl (by kernel_rfl) (by kernel_rfl) (by kernel_rfl) (fun _ _ _ h => h) (Or.inl ⟨by rfl, ?rah23⟩) (by assumption) ?rar23
           case rah23 => ((intro w hSw; (try dsimp only at hSw); go_simp); try with_reducible rfl)
           try simp only [Act.put, List.setIfInBounds_toArray, List.set_cons_zero, List.set_cons_succ]
           refine wpAnyH_take (i := 24) (oi := { dst := some 56, op := Op.move (Operand.tmp 0), type := 32, pos := "ref.go:33", after := #[{ on := 23, ground := Ground.guard }], guard := some (23, true) }) (v := undef) rfl (by kernel_rfl) (by kernel_rfl) (by kernel_rfl) (fun _ _ _ h => h) (Or.inr ⟨by rfl, rfl⟩) (by assumption) ?_
           try simp only [Act.put, List.setIfInBounds_toArray, List.set_cons_zero, List.set_cons_succ]
           refine wpAnyH_take (i := 25) (oi := { dst := some 57, op := Op.move (Operand.tmp 5), type := 3, pos := "ref.go:33", after := #[{ on := 23, ground := Ground.guard }], guard := some (23, true) }) (v := undef) rfl (by kernel_rfl) (by kernel_rfl) (by kernel_rfl) (fun _ _ _ h => h) (Or.inr ⟨by rfl, rfl⟩) (by assumption) ?_
           try simp only [Act.put, List.setIfInBounds_toArray, List.set_cons_zero, List.set_cons_succ]
           refine wpAnyH_take (i := 26) (oi := { dst := some 58, op := Op.indexAddr 32 (Operand.tmp 56) (Operand.tmp 57), type := 0, pos := "ref.go:33", after := #[{ on := 24, ground := Ground.data }, { on := 25, ground := Ground.data }, { on := 23, ground := Ground.guard }], guard := some (23, true) }) (v := undef) rfl (by kernel_rfl) (by kernel_rfl) (by kernel_rfl) (fun _ _ _ h => h) (Or.inr ⟨by rfl, rfl⟩) (by assumption) ?_
           try simp only [Act.put, List.setIfInBounds_toArray, List.set_cons_zero, List.set_cons_succ]
           refine wpAnyH_take (i := 27) (oi := { dst := some 59, op := Op.load 35 (Operand.tmp 58), type := 35, pos := "ref.go:33", after := #[{ on := 26, ground := Ground.data }, { on := 23, ground := Ground.guard }], guard := some (23, true) }) (v := undef) rfl (by kernel_rfl) (by kernel_rfl) (by kernel_rfl) (fun _ _ _ h => h) (Or.inr ⟨by rfl, rfl⟩) (by assumption) ?_
           try simp only [Act.put, List.setIfInBounds_toArray, List.set_cons_zero, List.set_cons_succ]
           refine wpAnyH_take (i := 28) (oi := { dst := some 60, op := Op.move (Operand.tmp 0), type := 32, pos := "ref.go:33", after := #[{ on := 23, ground := Ground.guard }], guard := some (23, true) }) (v := undef) rfl (by kernel_rfl) (by kernel_rfl) (by kernel_rfl) (fun _ _ _ h => h) (Or.inr ⟨by rfl, rfl⟩) (by assumption) ?_
           try simp only [Act.put, List.setIfInBounds_toArray, List.set_cons_zero, List.set_cons_succ]
           refine wpAnyH_take (i := 29) (oi := { dst := some 61, op := Op.move (Operand.tmp 4), type := 3, pos := "ref.go:33", after := #[{ on := 23, ground := Ground.guard }], guard := some (23, true) }) (v := undef) rfl (by kernel_rfl) (by kernel_rfl) (by kernel_rfl) (fun _ _ _ h => h) (Or.inr ⟨by rfl, rfl⟩) (by assumption) ?_
           try simp only [Act.put, List.setIfInBounds_toArray, List.set_cons_zero, List.set_cons_succ]
           refine wpAnyH_take (i := 30) (oi := { dst := some 62, op := Op.indexAddr 32 (Operand.tmp 60) (Operand.tmp 61), type := 0, pos := "ref.go:33", after := #[{ on := 28, ground := Ground.data }, { on := 29, ground := Ground.data }, { on := 23, ground := Ground.guard }], guard := some (23, true) }) (v := undef) rfl (by kernel_rfl) (by kernel_rfl) (by kernel_rfl) (fun _ _ _ h => h) (Or.inr ⟨by rfl, rfl⟩) (by assumption) ?_
           try simp only [Act.put, List.setIfInBounds_toArray, List.set_cons_zero, List.set_cons_succ]
           refine wpAnyH_take (i := 31) (oi := { dst := some 63, op := Op.load 35 (Operand.tmp 62), type := 35, pos := "ref.go:33", after := #[{ on := 30, ground := Ground.data }, { on := 23, ground := Ground.guard }], guard := some (23, true) }) (v := undef) rfl (by kernel_rfl) (by kernel_rfl) (by kernel_rfl) (fun _ _ _ h => h) (Or.inr ⟨by rfl, rfl⟩) (by assumption) ?_
           try simp only [Act.put, List.setIfInBounds_toArray, List.set_cons_zero, List.set_cons_succ]
           refine wpAnyH_take (i := 32) (oi := { dst := some 64, op := Op.call { callee := Callee.value (Operand.func 35), args := #[Operand.tmp 59, Operand.tmp 63], argTypes := #[35, 35] }, type := 4, pos := "ref.go:33", after := #[{ on := 27, ground := Ground.data }, { on := 31, ground := Ground.data }, { on := 23, ground := Ground.chain }, { on := 23, ground := Ground.guard }], guard := some (23, true) }) (v := undef) rfl (by kernel_rfl) (by kernel_rfl) (by kernel_rfl) (fun _ _ _ h => h) (Or.inr ⟨by rfl, rfl⟩) (by assumption) ?_
           try simp only [Act.put, List.setIfInBounds_toArray, List.set_cons_zero, List.set_cons_succ]
           refine wpAnyH_take (i := 33) (oi := { dst := some 65, op := Op.unOp UnOp.not 4 (Operand.tmp 64), type := 4, pos := "ref.go:33", after := #[{ on := 32, ground := Ground.data }, { on := 23, ground := Ground.guard }], guard := some (23, true) }) (v := undef) rfl (by kernel_rfl) (by kernel_rfl) (by kernel_rfl) (fun _ _ _ h => h) (Or.inr ⟨by rfl, rfl⟩) (by assumption) ?_
           try simp only [Act.put, List.setIfInBounds_toArray, List.set_cons_zero, List.set_cons_succ]
           refine wpAnyH_take (i := 34) (oi := { dst := some 66, op := Op.pick (Operand.tmp 55) (Operand.tmp 65) (Operand.const (Value.bool false)), type := 4, pos := "ref.go:33", after := #[{ on := 23, ground := Ground.data }, { on := 33, ground := Ground.data }], guard := none }) (v := ?rav34) rfl (by kernel_rfl) (by kernel_rfl) (by kernel_rfl) (fun _ _ _ h => h) (Or.inl ⟨by rfl, ?rah34⟩) (by assumption) ?rar34
           case rah34 => ((intro w hSw; (try dsimp only at hSw); go_simp); try with_reducible rfl)
           try simp only [Act.put, List.setIfInBounds_toArray, List.set_cons_zero, List.set_cons_succ]
           refine wpAnyH_done (by kernel_rfl) ?_ _
           go_wp2_with fail
           go_meet
           exact ⟨by rw [HVV.out], by assumption⟩
          | false =>
           rw [h1] at HA
           have HVV : Hid (V = !aheadC (cAt l k) (cAt l i)) := by unfold Hid; rw [HV.out, h1, hw]; simp
           clear h1 hw
           generalize aheadC (cAt l k) (cAt l i) = A2 at HA2 HVV
           refine wp_region_held_drew (S := fun w' => Below wr.heap.size wr w') (by kernel_rfl) ((Below.refl _ _).drew) (fun hHeld => ?_)
           refine wpAnyH_take (i := 0) (oi := { dst := some 32, op := Op.move (Operand.tmp 0), type := 32, pos := "ref.go:33", after := #[], guard := none }) (v := ?rbv0) rfl (by kernel_rfl) (by kernel_rfl) (by kernel_rfl) (fun _ _ _ h => h) (Or.inl ⟨by rfl, ?rbh0⟩) (by assumption) ?rbr0
           case rbh0 => ((intro w hSw; (try dsimp only at hSw); go_simp); try with_reducible rfl)
           try simp only [Act.put, List.setIfInBounds_toArray, List.set_cons_zero, List.set_cons_succ]
           refine wpAnyH_take (i := 1) (oi := { dst := some 33, op := Op.move (Operand.tmp 4), type := 3, pos := "ref.go:33", after := #[], guard := none }) (v := ?rbv1) rfl (by kernel_rfl) (by kernel_rfl) (by kernel_rfl) (fun _ _ _ h => h) (Or.inl ⟨by rfl, ?rbh1⟩) (by assumption) ?rbr1
           case rbh1 => ((intro w hSw; (try dsimp only at hSw); go_simp); try with_reducible rfl)
           try simp only [Act.put, List.setIfInBounds_toArray, List.set_cons_zero, List.set_cons_succ]
           refine wpAnyH_take (i := 2) (oi := { dst := some 34, op := Op.indexAddr 32 (Operand.tmp 32) (Operand.tmp 33), type := 0, pos := "ref.go:33", after := #[{ on := 0, ground := Ground.data }, { on := 1, ground := Ground.data }], guard := none }) (v := ?rbv2) rfl (by kernel_rfl) (by kernel_rfl) (by kernel_rfl) (fun _ _ _ h => h) (Or.inl ⟨by rfl, ?rbh2⟩) (by assumption) ?rbr2
           case rbh2 => ((intro w hSw; (try dsimp only at hSw); go_simp); try with_reducible rfl)
           try simp only [Act.put, List.setIfInBounds_toArray, List.set_cons_zero, List.set_cons_succ]
           refine wpAnyH_take (i := 3) (oi := { dst := some 35, op := Op.fieldAddr 35 (Operand.tmp 34) 0, type := 0, pos := "ref.go:33", after := #[{ on := 2, ground := Ground.data }], guard := none }) (v := ?rbv3) rfl (by kernel_rfl) (by kernel_rfl) (by kernel_rfl) (fun _ _ _ h => h) (Or.inl ⟨by rfl, ?rbh3⟩) (by assumption) ?rbr3
           case rbh3 => ((intro w hSw; (try dsimp only at hSw); go_simp); try with_reducible rfl)
           try simp only [Act.put, List.setIfInBounds_toArray, List.set_cons_zero, List.set_cons_succ]
           refine wpAnyH_take (i := 4) (oi := { dst := some 36, op := Op.load 3 (Operand.tmp 35), type := 3, pos := "ref.go:33", after := #[{ on := 3, ground := Ground.data }], guard := none }) (v := ?rbv4) rfl (by kernel_rfl) (by kernel_rfl) (by kernel_rfl) (fun _ _ _ h => h) (Or.inl ⟨by rfl, ?rbh4⟩) (by assumption) ?rbr4
           case rbh4 => ((intro w hSw; (try dsimp only at hSw); go_simp); try with_reducible rfl)
           try simp only [Act.put, List.setIfInBounds_toArray, List.set_cons_zero, List.set_cons_succ]
           refine wpAnyH_take (i := 5) (oi := { dst := some 37, op := Op.move (Operand.tmp 0), type := 32, pos := "ref.go:33", after := #[], guard := none }) (v := ?rbv5) rfl (by kernel_rfl) (by kernel_rfl) (by kernel_rfl) (fun _ _ _ h => h) (Or.inl ⟨by rfl, ?rbh5⟩) (by assumption) ?rbr5
           case rbh5 => ((intro w hSw; (try dsimp only at hSw); go_simp); try with_reducible rfl)
           try simp only [Act.put, List.setIfInBounds_toArray, List.set_cons_zero, List.set_cons_succ]
           refine wpAnyH_take (i := 6) (oi := { dst := some 38, op := Op.move (Operand.tmp 5), type := 3, pos := "ref.go:33", after := #[], guard := none }) (v := ?rbv6) rfl (by kernel_rfl) (by kernel_rfl) (by kernel_rfl) (fun _ _ _ h => h) (Or.inl ⟨by rfl, ?rbh6⟩) (by assumption) ?rbr6
           case rbh6 => ((intro w hSw; (try dsimp only at hSw); go_simp); try with_reducible rfl)
           try simp only [Act.put, List.setIfInBounds_toArray, List.set_cons_zero, List.set_cons_succ]
           refine wpAnyH_take (i := 7) (oi := { dst := some 39, op := Op.indexAddr 32 (Operand.tmp 37) (Operand.tmp 38), type := 0, pos := "ref.go:33", after := #[{ on := 5, ground := Ground.data }, { on := 6, ground := Ground.data }], guard := none }) (v := ?rbv7) rfl (by kernel_rfl) (by kernel_rfl) (by kernel_rfl) (fun _ _ _ h => h) (Or.inl ⟨by rfl, ?rbh7⟩) (by assumption) ?rbr7
           case rbh7 => ((intro w hSw; (try dsimp only at hSw); go_simp); try with_reducible rfl)
           try simp only [Act.put, List.setIfInBounds_toArray, List.set_cons_zero, List.set_cons_succ]
           refine wpAnyH_take (i := 8) (oi := { dst := some 40, op := Op.fieldAddr 35 (Operand.tmp 39) 0, type := 0, pos := "ref.go:33", after := #[{ on := 7, ground := Ground.data }], guard := none }) (v := ?rbv8) rfl (by kernel_rfl) (by kernel_rfl) (by kernel_rfl) (fun _ _ _ h => h) (Or.inl ⟨by rfl, ?rbh8⟩) (by assumption) ?rbr8
           case rbh8 => ((intro w hSw; (try dsimp only at hSw); go_simp); try with_reducible rfl)
           try simp only [Act.put, List.setIfInBounds_toArray, List.set_cons_zero, List.set_cons_succ]
           refine wpAnyH_take (i := 9) (oi := { dst := some 41, op := Op.load 3 (Operand.tmp 40), type := 3, pos := "ref.go:33", after := #[{ on := 8, ground := Ground.data }], guard := none }) (v := ?rbv9) rfl (by kernel_rfl) (by kernel_rfl) (by kernel_rfl) (fun _ _ _ h => h) (Or.inl ⟨by rfl, ?rbh9⟩) (by assumption) ?rbr9
           case rbh9 => ((intro w hSw; (try dsimp only at hSw); go_simp); try with_reducible rfl)
           try simp only [Act.put, List.setIfInBounds_toArray, List.set_cons_zero, List.set_cons_succ]
           refine wpAnyH_take (i := 10) (oi := { dst := some 42, op := Op.binOp BinOp.eql 3 (Operand.tmp 36) (Operand.tmp 41) 3, type := 4, pos := "ref.go:33", after := #[{ on := 4, ground := Ground.data }, { on := 9, ground := Ground.data }], guard := none }) (v := ?rbv10) rfl (by kernel_rfl) (by kernel_rfl) (by kernel_rfl) (fun _ _ _ h => h) (Or.inl ⟨by rfl, ?rbh10⟩) (by assumption) ?rbr10
           case rbh10 => ((intro w hSw; (try dsimp only at hSw); go_simp); try with_reducible rfl)
           try simp only [Act.put, List.setIfInBounds_toArray, List.set_cons_zero, List.set_cons_succ]
           refine wpAnyH_take (i := 11) (oi := { dst := some 43, op := Op.move (Operand.tmp 42), type := 4, pos := "ref.go:33", after := #[{ on := 10, ground := Ground.data }], guard := none }) (v := ?rbv11) rfl (by kernel_rfl) (by kernel_rfl) (by kernel_rfl) (fun _ _ _ h => h) (Or.inl ⟨by rfl, ?rbh11⟩) (by assumption) ?rbr11
           case rbh11 => ((intro w hSw; (try dsimp only at hSw); go_simp); try with_reducible rfl)
           try simp only [Act.put, List.setIfInBounds_toArray, List.set_cons_zero, List.set_cons_succ]
           refine wpAnyH_take (i := 12) (oi := { dst := some 44, op := Op.move (Operand.tmp 0), type := 32, pos := "ref.go:33", after := #[{ on := 11, ground := Ground.guard }], guard := some (11, true) }) (v := ?rbv12) rfl (by kernel_rfl) (by kernel_rfl) (by kernel_rfl) (fun _ _ _ h => h) (Or.inl ⟨by rfl, ?rbh12⟩) (by assumption) ?rbr12
           case rbh12 => ((intro w hSw; (try dsimp only at hSw); go_simp); try with_reducible rfl)
           try simp only [Act.put, List.setIfInBounds_toArray, List.set_cons_zero, List.set_cons_succ]
           refine wpAnyH_take (i := 13) (oi := { dst := some 45, op := Op.move (Operand.tmp 4), type := 3, pos := "ref.go:33", after := #[{ on := 11, ground := Ground.guard }], guard := some (11, true) }) (v := ?rbv13) rfl (by kernel_rfl) (by kernel_rfl) (by kernel_rfl) (fun _ _ _ h => h) (Or.inl ⟨by rfl, ?rbh13⟩) (by assumption) ?rbr13
           case rbh13 => ((intro w hSw; (try dsimp only at hSw); go_simp); try with_reducible rfl)
           try simp only [Act.put, List.setIfInBounds_toArray, List.set_cons_zero, List.set_cons_succ]
           refine wpAnyH_take (i := 14) (oi := { dst := some 46, op := Op.indexAddr 32 (Operand.tmp 44) (Operand.tmp 45), type := 0, pos := "ref.go:33", after := #[{ on := 12, ground := Ground.data }, { on := 13, ground := Ground.data }, { on := 11, ground := Ground.guard }], guard := some (11, true) }) (v := ?rbv14) rfl (by kernel_rfl) (by kernel_rfl) (by kernel_rfl) (fun _ _ _ h => h) (Or.inl ⟨by rfl, ?rbh14⟩) (by assumption) ?rbr14
           case rbh14 => ((intro w hSw; (try dsimp only at hSw); go_simp); try with_reducible rfl)
           try simp only [Act.put, List.setIfInBounds_toArray, List.set_cons_zero, List.set_cons_succ]
           refine wpAnyH_take (i := 15) (oi := { dst := some 47, op := Op.load 35 (Operand.tmp 46), type := 35, pos := "ref.go:33", after := #[{ on := 14, ground := Ground.data }, { on := 11, ground := Ground.guard }], guard := some (11, true) }) (v := ?rbv15) rfl (by kernel_rfl) (by kernel_rfl) (by kernel_rfl) (fun _ _ _ h => h) (Or.inl ⟨by rfl, ?rbh15⟩) (by assumption) ?rbr15
           case rbh15 => ((intro w hSw; (try dsimp only at hSw); go_simp); try with_reducible rfl)
           try simp only [Act.put, List.setIfInBounds_toArray, List.set_cons_zero, List.set_cons_succ]
           refine wpAnyH_take (i := 16) (oi := { dst := some 48, op := Op.move (Operand.tmp 0), type := 32, pos := "ref.go:33", after := #[{ on := 11, ground := Ground.guard }], guard := some (11, true) }) (v := ?rbv16) rfl (by kernel_rfl) (by kernel_rfl) (by kernel_rfl) (fun _ _ _ h => h) (Or.inl ⟨by rfl, ?rbh16⟩) (by assumption) ?rbr16
           case rbh16 => ((intro w hSw; (try dsimp only at hSw); go_simp); try with_reducible rfl)
           try simp only [Act.put, List.setIfInBounds_toArray, List.set_cons_zero, List.set_cons_succ]
           refine wpAnyH_take (i := 17) (oi := { dst := some 49, op := Op.move (Operand.tmp 5), type := 3, pos := "ref.go:33", after := #[{ on := 11, ground := Ground.guard }], guard := some (11, true) }) (v := ?rbv17) rfl (by kernel_rfl) (by kernel_rfl) (by kernel_rfl) (fun _ _ _ h => h) (Or.inl ⟨by rfl, ?rbh17⟩) (by assumption) ?rbr17
           case rbh17 => ((intro w hSw; (try dsimp only at hSw); go_simp); try with_reducible rfl)
           try simp only [Act.put, List.setIfInBounds_toArray, List.set_cons_zero, List.set_cons_succ]
           refine wpAnyH_take (i := 18) (oi := { dst := some 50, op := Op.indexAddr 32 (Operand.tmp 48) (Operand.tmp 49), type := 0, pos := "ref.go:33", after := #[{ on := 16, ground := Ground.data }, { on := 17, ground := Ground.data }, { on := 11, ground := Ground.guard }], guard := some (11, true) }) (v := ?rbv18) rfl (by kernel_rfl) (by kernel_rfl) (by kernel_rfl) (fun _ _ _ h => h) (Or.inl ⟨by rfl, ?rbh18⟩) (by assumption) ?rbr18
           case rbh18 => ((intro w hSw; (try dsimp only at hSw); go_simp); try with_reducible rfl)
           try simp only [Act.put, List.setIfInBounds_toArray, List.set_cons_zero, List.set_cons_succ]
           refine wpAnyH_take (i := 19) (oi := { dst := some 51, op := Op.load 35 (Operand.tmp 50), type := 35, pos := "ref.go:33", after := #[{ on := 18, ground := Ground.data }, { on := 11, ground := Ground.guard }], guard := some (11, true) }) (v := ?rbv19) rfl (by kernel_rfl) (by kernel_rfl) (by kernel_rfl) (fun _ _ _ h => h) (Or.inl ⟨by rfl, ?rbh19⟩) (by assumption) ?rbr19
           case rbh19 => ((intro w hSw; (try dsimp only at hSw); go_simp); try with_reducible rfl)
           try simp only [Act.put, List.setIfInBounds_toArray, List.set_cons_zero, List.set_cons_succ]
           refine wpAnyH_ready (rs := [20]) (by kernel_rfl) (by simp) ?_
           refine AllReadyH.cons (o := { dst := some 52, op := Op.call { callee := Callee.value (Operand.func 35), args := #[Operand.tmp 47, Operand.tmp 51], argTypes := #[35, 35] }, type := 4, pos := "ref.go:33", after := #[{ on := 15, ground := Ground.data }, { on := 19, ground := Ground.data }, { on := 11, ground := Ground.chain }, { on := 11, ground := Ground.guard }], guard := some (11, true) }) rfl (fun K hK => ?_) AllReadyH.nil
           go_simp
           (go_at_call 35; with_reducible refine (HA.out _).mono ?_; rintro e w' ⟨rfl, hbq⟩; have hq9 : Below wr.heap.size wr w' := below_tr hbq (by assumption); clear hbq)
           refine hK.out _ _ (by assumption) (fun hHeld => ?_)
           clear hK K
           try simp only [Act.put, List.setIfInBounds_toArray, List.set_cons_zero, List.set_cons_succ]
           refine wpAnyH_take (i := 21) (oi := { dst := some 53, op := Op.unOp UnOp.not 4 (Operand.tmp 52), type := 4, pos := "ref.go:33", after := #[{ on := 20, ground := Ground.data }, { on := 11, ground := Ground.guard }], guard := some (11, true) }) (v := ?rbv21) rfl (by kernel_rfl) (by kernel_rfl) (by kernel_rfl) (fun _ _ _ h => h) (Or.inl ⟨by rfl, ?rbh21⟩) (by assumption) ?rbr21
           case rbh21 => ((intro w hSw; (try dsimp only at hSw); go_simp); try with_reducible rfl)
           try simp only [Act.put, List.setIfInBounds_toArray, List.set_cons_zero, List.set_cons_succ]
           refine wpAnyH_take (i := 22) (oi := { dst := some 54, op := Op.pick (Operand.tmp 43) (Operand.tmp 53) (Operand.const (Value.bool false)), type := 4, pos := "ref.go:33", after := #[{ on := 11, ground := Ground.data }, { on := 21, ground := Ground.data }], guard := none }) (v := ?rbv22) rfl (by kernel_rfl) (by kernel_rfl) (by kernel_rfl) (fun _ _ _ h => h) (Or.inl ⟨by rfl, ?rbh22⟩) (by assumption) ?rbr22
           case rbh22 => ((intro w hSw; (try dsimp only at hSw); go_simp); try with_reducible rfl)
           try simp only [Act.put, List.setIfInBounds_toArray, List.set_cons_zero, List.set_cons_succ]
           refine wpAnyH_take (i := 23) (oi := { dst := some 55, op := Op.move (Operand.tmp 54), type := 4, pos := "ref.go:33", after := #[{ on := 22, ground := Ground.data }, { on := 20, ground := Ground.chain }], guard := none }) (v := ?rbv23) rfl (by kernel_rfl) (by kernel_rfl) (by kernel_rfl) (fun _ _ _ h => h) (Or.inl ⟨by rfl, ?rbh23⟩) (by assumption) ?rbr23
           case rbh23 => ((intro w hSw; (try dsimp only at hSw); go_simp); try with_reducible rfl)
           try simp only [Act.put, List.setIfInBounds_toArray, List.set_cons_zero, List.set_cons_succ]
           refine wpAnyH_take (i := 24) (oi := { dst := some 56, op := Op.move (Operand.tmp 0), type := 32, pos := "ref.go:33", after := #[{ on := 23, ground := Ground.guard }], guard := some (23, true) }) (v := ?rbv24) rfl (by kernel_rfl) (by kernel_rfl) (by kernel_rfl) (fun _ _ _ h => h) (Or.inl ⟨by rfl, ?rbh24⟩) (by assumption) ?rbr24
           case rbh24 => ((intro w hSw; (try dsimp only at hSw); go_simp); try with_reducible rfl)
           try simp only [Act.put, List.setIfInBounds_toArray, List.set_cons_zero, List.set_cons_succ]
           refine wpAnyH_take (i := 25) (oi := { dst := some 57, op := Op.move (Operand.tmp 5), type := 3, pos := "ref.go:33", after := #[{ on := 23, ground := Ground.guard }], guard := some (23, true) }) (v := ?rbv25) rfl (by kernel_rfl) (by kernel_rfl) (by kernel_rfl) (fun _ _ _ h => h) (Or.inl ⟨by rfl, ?rbh25⟩) (by assumption) ?rbr25
           case rbh25 => ((intro w hSw; (try dsimp only at hSw); go_simp); try with_reducible rfl)
           try simp only [Act.put, List.setIfInBounds_toArray, List.set_cons_zero, List.set_cons_succ]
           refine wpAnyH_take (i := 26) (oi := { dst := some 58, op := Op.indexAddr 32 (Operand.tmp 56) (Operand.tmp 57), type := 0, pos := "ref.go:33", after := #[{ on := 24, ground := Ground.data }, { on := 25, ground := Ground.data }, { on := 23, ground := Ground.guard }], guard := some (23, true) }) (v := ?rbv26) rfl (by kernel_rfl) (by kernel_rfl) (by kernel_rfl) (fun _ _ _ h => h) (Or.inl ⟨by rfl, ?rbh26⟩) (by assumption) ?rbr26
           case rbh26 => ((intro w hSw; (try dsimp only at hSw); go_simp); try with_reducible rfl)
           try simp only [Act.put, List.setIfInBounds_toArray, List.set_cons_zero, List.set_cons_succ]
           refine wpAnyH_take (i := 27) (oi := { dst := some 59, op := Op.load 35 (Operand.tmp 58), type := 35, pos := "ref.go:33", after := #[{ on := 26, ground := Ground.data }, { on := 23, ground := Ground.guard }], guard := some (23, true) }) (v := ?rbv27) rfl (by kernel_rfl) (by kernel_rfl) (by kernel_rfl) (fun _ _ _ h => h) (Or.inl ⟨by rfl, ?rbh27⟩) (by assumption) ?rbr27
           case rbh27 => ((intro w hSw; (try dsimp only at hSw); go_simp); try with_reducible rfl)
           try simp only [Act.put, List.setIfInBounds_toArray, List.set_cons_zero, List.set_cons_succ]
           refine wpAnyH_take (i := 28) (oi := { dst := some 60, op := Op.move (Operand.tmp 0), type := 32, pos := "ref.go:33", after := #[{ on := 23, ground := Ground.guard }], guard := some (23, true) }) (v := ?rbv28) rfl (by kernel_rfl) (by kernel_rfl) (by kernel_rfl) (fun _ _ _ h => h) (Or.inl ⟨by rfl, ?rbh28⟩) (by assumption) ?rbr28
           case rbh28 => ((intro w hSw; (try dsimp only at hSw); go_simp); try with_reducible rfl)
           try simp only [Act.put, List.setIfInBounds_toArray, List.set_cons_zero, List.set_cons_succ]
           refine wpAnyH_take (i := 29) (oi := { dst := some 61, op := Op.move (Operand.tmp 4), type := 3, pos := "ref.go:33", after := #[{ on := 23, ground := Ground.guard }], guard := some (23, true) }) (v := ?rbv29) rfl (by kernel_rfl) (by kernel_rfl) (by kernel_rfl) (fun _ _ _ h => h) (Or.inl ⟨by rfl, ?rbh29⟩) (by assumption) ?rbr29
           case rbh29 => ((intro w hSw; (try dsimp only at hSw); go_simp); try with_reducible rfl)
           try simp only [Act.put, List.setIfInBounds_toArray, List.set_cons_zero, List.set_cons_succ]
           refine wpAnyH_take (i := 30) (oi := { dst := some 62, op := Op.indexAddr 32 (Operand.tmp 60) (Operand.tmp 61), type := 0, pos := "ref.go:33", after := #[{ on := 28, ground := Ground.data }, { on := 29, ground := Ground.data }, { on := 23, ground := Ground.guard }], guard := some (23, true) }) (v := ?rbv30) rfl (by kernel_rfl) (by kernel_rfl) (by kernel_rfl) (fun _ _ _ h => h) (Or.inl ⟨by rfl, ?rbh30⟩) (by assumption) ?rbr30
           case rbh30 => ((intro w hSw; (try dsimp only at hSw); go_simp); try with_reducible rfl)
           try simp only [Act.put, List.setIfInBounds_toArray, List.set_cons_zero, List.set_cons_succ]
           refine wpAnyH_take (i := 31) (oi := { dst := some 63, op := Op.load 35 (Operand.tmp 62), type := 35, pos := "ref.go:33", after := #[{ on := 30, ground := Ground.data }, { on := 23, ground := Ground.guard }], guard := some (23, true) }) (v := ?rbv31) rfl (by kernel_rfl) (by kernel_rfl) (by kernel_rfl) (fun _ _ _ h => h) (Or.inl ⟨by rfl, ?rbh31⟩) (by assumption) ?rbr31
           case rbh31 => ((intro w hSw; (try dsimp only at hSw); go_simp); try with_reducible rfl)
           try simp only [Act.put, List.setIfInBounds_toArray, List.set_cons_zero, List.set_cons_succ]
           refine wpAnyH_ready (rs := [32]) (by kernel_rfl) (by simp) ?_
           refine AllReadyH.cons (o := { dst := some 64, op := Op.call { callee := Callee.value (Operand.func 35), args := #[Operand.tmp 59, Operand.tmp 63], argTypes := #[35, 35] }, type := 4, pos := "ref.go:33", after := #[{ on := 27, ground := Ground.data }, { on := 31, ground := Ground.data }, { on := 23, ground := Ground.chain }, { on := 23, ground := Ground.guard }], guard := some (23, true) }) rfl (fun K hK => ?_) AllReadyH.nil
           go_simp
           (go_at_call 35; with_reducible refine (HA2.out _).mono ?_; rintro e w2 ⟨rfl, hbq⟩; have hq8 : Below wr.heap.size wr w2 := below_tr hbq (by assumption); clear hbq)
           refine hK.out _ _ (by assumption) (fun hHeld => ?_)
           clear hK K
           try simp only [Act.put, List.setIfInBounds_toArray, List.set_cons_zero, List.set_cons_succ]
           refine wpAnyH_take (i := 33) (oi := { dst := some 65, op := Op.unOp UnOp.not 4 (Operand.tmp 64), type := 4, pos := "ref.go:33", after := #[{ on := 32, ground := Ground.data }, { on := 23, ground := Ground.guard }], guard := some (23, true) }) (v := ?rbv33) rfl (by kernel_rfl) (by kernel_rfl) (by kernel_rfl) (fun _ _ _ h => h) (Or.inl ⟨by rfl, ?rbh33⟩) (by assumption) ?rbr33
           case rbh33 => ((intro w hSw; (try dsimp only at hSw); go_simp); try with_reducible rfl)
           try simp only [Act.put, List.setIfInBounds_toArray, List.set_cons_zero, List.set_cons_succ]
           refine wpAnyH_take (i := 34) (oi := { dst := some 66, op := Op.pick (Operand.tmp 55) (Operand.tmp 65) (Operand.const (Value.bool false)), type := 4, pos := "ref.go:33", after := #[{ on := 23, ground := Ground.data }, { on := 33, ground := Ground.data }], guard := none }) (v := ?rbv34) rfl (by kernel_rfl) (by kernel_rfl) (by kernel_rfl) (fun _ _ _ h => h) (Or.inl ⟨by rfl, ?rbh34⟩) (by assumption) ?rbr34
           case rbh34 => ((intro w hSw; (try dsimp only at hSw); go_simp); try with_reducible rfl)
           try simp only [Act.put, List.setIfInBounds_toArray, List.set_cons_zero, List.set_cons_succ]
           refine wpAnyH_done (by kernel_rfl) ?_ _
           go_wp2_with fail
           go_meet
           exact ⟨by rw [HVV.out], by assumption⟩
         ·have HVV : Hid (V = false) := by unfold Hid; rw [HV.out]; simp [hw]
          have hw1 : ((cAt l i).w == (cAt l k).w) = false := by simpa using hw
          have hw2 : decide ((cAt l i).w = (cAt l k).w) = false := by simpa using hw
          clear hw
          refine wp_region_held_drew (S := fun w' => Below wr.heap.size wr w') (by kernel_rfl) ((Below.refl _ _).drew) (fun hHeld => ?_)
          refine wpAnyH_take (i := 0) (oi := { dst := some 32, op := Op.move (Operand.tmp 0), type := 32, pos := "ref.go:33", after := #[], guard := none }) (v := ?rcv0) rfl (by kernel_rfl) (by kernel_rfl) (by kernel_rfl) (fun _ _ _ h => h) (Or.inl ⟨by rfl, ?rch0⟩) (by assumption) ?rcr0
          case rch0 => ((intro w hSw; (try dsimp only at hSw); go_simp); try with_reducible rfl)
          try simp only [Act.put, List.setIfInBounds_toArray, List.set_cons_zero, List.set_cons_succ]
          refine wpAnyH_take (i := 1) (oi := { dst := some 33, op := Op.move (Operand.tmp 4), type := 3, pos := "ref.go:33", after := #[], guard := none }) (v := ?rcv1) rfl (by kernel_rfl) (by kernel_rfl) (by kernel_rfl) (fun _ _ _ h => h) (Or.inl ⟨by rfl, ?rch1⟩) (by assumption) ?rcr1
          case rch1 => ((intro w hSw; (try dsimp only at hSw); go_simp); try with_reducible rfl)
          try simp only [Act.put, List.setIfInBounds_toArray, List.set_cons_zero, List.set_cons_succ]
          refine wpAnyH_take (i := 2) (oi := { dst := some 34, op := Op.indexAddr 32 (Operand.tmp 32) (Operand.tmp 33), type := 0, pos := "ref.go:33", after := #[{ on := 0, ground := Ground.data }, { on := 1, ground := Ground.data }], guard := none }) (v := ?rcv2) rfl (by kernel_rfl) (by kernel_rfl) (by kernel_rfl) (fun _ _ _ h => h) (Or.inl ⟨by rfl, ?rch2⟩) (by assumption) ?rcr2
          case rch2 => ((intro w hSw; (try dsimp only at hSw); go_simp); try with_reducible rfl)
          try simp only [Act.put, List.setIfInBounds_toArray, List.set_cons_zero, List.set_cons_succ]
          refine wpAnyH_take (i := 3) (oi := { dst := some 35, op := Op.fieldAddr 35 (Operand.tmp 34) 0, type := 0, pos := "ref.go:33", after := #[{ on := 2, ground := Ground.data }], guard := none }) (v := ?rcv3) rfl (by kernel_rfl) (by kernel_rfl) (by kernel_rfl) (fun _ _ _ h => h) (Or.inl ⟨by rfl, ?rch3⟩) (by assumption) ?rcr3
          case rch3 => ((intro w hSw; (try dsimp only at hSw); go_simp); try with_reducible rfl)
          try simp only [Act.put, List.setIfInBounds_toArray, List.set_cons_zero, List.set_cons_succ]
          refine wpAnyH_take (i := 4) (oi := { dst := some 36, op := Op.load 3 (Operand.tmp 35), type := 3, pos := "ref.go:33", after := #[{ on := 3, ground := Ground.data }], guard := none }) (v := ?rcv4) rfl (by kernel_rfl) (by kernel_rfl) (by kernel_rfl) (fun _ _ _ h => h) (Or.inl ⟨by rfl, ?rch4⟩) (by assumption) ?rcr4
          case rch4 => ((intro w hSw; (try dsimp only at hSw); go_simp); try with_reducible rfl)
          try simp only [Act.put, List.setIfInBounds_toArray, List.set_cons_zero, List.set_cons_succ]
          refine wpAnyH_take (i := 5) (oi := { dst := some 37, op := Op.move (Operand.tmp 0), type := 32, pos := "ref.go:33", after := #[], guard := none }) (v := ?rcv5) rfl (by kernel_rfl) (by kernel_rfl) (by kernel_rfl) (fun _ _ _ h => h) (Or.inl ⟨by rfl, ?rch5⟩) (by assumption) ?rcr5
          case rch5 => ((intro w hSw; (try dsimp only at hSw); go_simp); try with_reducible rfl)
          try simp only [Act.put, List.setIfInBounds_toArray, List.set_cons_zero, List.set_cons_succ]
          refine wpAnyH_take (i := 6) (oi := { dst := some 38, op := Op.move (Operand.tmp 5), type := 3, pos := "ref.go:33", after := #[], guard := none }) (v := ?rcv6) rfl (by kernel_rfl) (by kernel_rfl) (by kernel_rfl) (fun _ _ _ h => h) (Or.inl ⟨by rfl, ?rch6⟩) (by assumption) ?rcr6
          case rch6 => ((intro w hSw; (try dsimp only at hSw); go_simp); try with_reducible rfl)
          try simp only [Act.put, List.setIfInBounds_toArray, List.set_cons_zero, List.set_cons_succ]
          refine wpAnyH_take (i := 7) (oi := { dst := some 39, op := Op.indexAddr 32 (Operand.tmp 37) (Operand.tmp 38), type := 0, pos := "ref.go:33", after := #[{ on := 5, ground := Ground.data }, { on := 6, ground := Ground.data }], guard := none }) (v := ?rcv7) rfl (by kernel_rfl) (by kernel_rfl) (by kernel_rfl) (fun _ _ _ h => h) (Or.inl ⟨by rfl, ?rch7⟩) (by assumption) ?rcr7
          case rch7 => ((intro w hSw; (try dsimp only at hSw); go_simp); try with_reducible rfl)
          try simp only [Act.put, List.setIfInBounds_toArray, List.set_cons_zero, List.set_cons_succ]
          refine wpAnyH_take (i := 8) (oi := { dst := some 40, op := Op.fieldAddr 35 (Operand.tmp 39) 0, type := 0, pos := "ref.go:33", after := #[{ on := 7, ground := Ground.data }], guard := none }) (v := ?rcv8) rfl (by kernel_rfl) (by kernel_rfl) (by kernel_rfl) (fun _ _ _ h => h) (Or.inl ⟨by rfl, ?rch8⟩) (by assumption) ?rcr8
          case rch8 => ((intro w hSw; (try dsimp only at hSw); go_simp); try with_reducible rfl)
          try simp only [Act.put, List.setIfInBounds_toArray, List.set_cons_zero, List.set_cons_succ]
          refine wpAnyH_take (i := 9) (oi := { dst := some 41, op := Op.load 3 (Operand.tmp 40), type := 3, pos := "ref.go:33", after := #[{ on := 8, ground := Ground.data }], guard := none }) (v := ?rcv9) rfl (by kernel_rfl) (by kernel_rfl) (by kernel_rfl) (fun _ _ _ h => h) (Or.inl ⟨by rfl, ?rch9⟩) (by assumption) ?rcr9
          case rch9 => ((intro w hSw; (try dsimp only at hSw); go_simp); try with_reducible rfl)
          try simp only [Act.put, List.setIfInBounds_toArray, List.set_cons_zero, List.set_cons_succ]
          refine wpAnyH_take (i := 10) (oi := { dst := some 42, op := Op.binOp BinOp.eql 3 (Operand.tmp 36) (Operand.tmp 41) 3, type := 4, pos := "ref.go:33", after := #[{ on := 4, ground := Ground.data }, { on := 9, ground := Ground.data }], guard := none }) (v := ?rcv10) rfl (by kernel_rfl) (by kernel_rfl) (by kernel_rfl) (fun _ _ _ h => h) (Or.inl ⟨by rfl, ?rch10⟩) (by assumption) ?rcr10
          case rch10 => ((intro w hSw; (try dsimp only at hSw); go_simp); try with_reducible rfl)
          try simp only [Act.put, List.setIfInBounds_toArray, List.set_cons_zero, List.set_cons_succ]
          refine wpAnyH_take (i := 11) (oi := { dst := some 43, op := Op.move (Operand.tmp 42), type := 4, pos := "ref.go:33", after := #[{ on := 10, ground := Ground.data }], guard := none }) (v := ?rcv11) rfl (by kernel_rfl) (by kernel_rfl) (by kernel_rfl) (fun _ _ _ h => h) (Or.inl ⟨by rfl, ?rch11⟩) (by assumption) ?rcr11
          case rch11 => ((intro w hSw; (try dsimp only at hSw); go_simp); try with_reducible rfl)
          try simp only [Act.put, List.setIfInBounds_toArray, List.set_cons_zero, List.set_cons_succ]
          refine wpAnyH_take (i := 12) (oi := { dst := some 44, op := Op.move (Operand.tmp 0), type := 32, pos := "ref.go:33", after := #[{ on := 11, ground := Ground.guard }], guard := some (11, true) }) (v := undef) rfl (by kernel_rfl) (by kernel_rfl) (by kernel_rfl) (fun _ _ _ h => h) (Or.inr ⟨by rfl, rfl⟩) (by assumption) ?_
          try simp only [Act.put, List.setIfInBounds_toArray, List.set_cons_zero, List.set_cons_succ]
          refine wpAnyH_take (i := 13) (oi := { dst := some 45, op := Op.move (Operand.tmp 4), type := 3, pos := "ref.go:33", after := #[{ on := 11, ground := Ground.guard }], guard := some (11, true) }) (v := undef) rfl (by kernel_rfl) (by kernel_rfl) (by kernel_rfl) (fun _ _ _ h => h) (Or.inr ⟨by rfl, rfl⟩) (by assumption) ?_
          try simp only [Act.put, List.setIfInBounds_toArray, List.set_cons_zero, List.set_cons_succ]
          refine wpAnyH_take (i := 14) (oi := { dst := some 46, op := Op.indexAddr 32 (Operand.tmp 44) (Operand.tmp 45), type := 0, pos := "ref.go:33", after := #[{ on := 12, ground := Ground.data }, { on := 13, ground := Ground.data }, { on := 11, ground := Ground.guard }], guard := some (11, true) }) (v := undef) rfl (by kernel_rfl) (by kernel_rfl) (by kernel_rfl) (fun _ _ _ h => h) (Or.inr ⟨by rfl, rfl⟩) (by assumption) ?_
          try simp only [Act.put, List.setIfInBounds_toArray, List.set_cons_zero, List.set_cons_succ]
          refine wpAnyH_take (i := 15) (oi := { dst := some 47, op := Op.load 35 (Operand.tmp 46), type := 35, pos := "ref.go:33", after := #[{ on := 14, ground := Ground.data }, { on := 11, ground := Ground.guard }], guard := some (11, true) }) (v := undef) rfl (by kernel_rfl) (by kernel_rfl) (by kernel_rfl) (fun _ _ _ h => h) (Or.inr ⟨by rfl, rfl⟩) (by assumption) ?_
          try simp only [Act.put, List.setIfInBounds_toArray, List.set_cons_zero, List.set_cons_succ]
          refine wpAnyH_take (i := 16) (oi := { dst := some 48, op := Op.move (Operand.tmp 0), type := 32, pos := "ref.go:33", after := #[{ on := 11, ground := Ground.guard }], guard := some (11, true) }) (v := undef) rfl (by kernel_rfl) (by kernel_rfl) (by kernel_rfl) (fun _ _ _ h => h) (Or.inr ⟨by rfl, rfl⟩) (by assumption) ?_
          try simp only [Act.put, List.setIfInBounds_toArray, List.set_cons_zero, List.set_cons_succ]
          refine wpAnyH_take (i := 17) (oi := { dst := some 49, op := Op.move (Operand.tmp 5), type := 3, pos := "ref.go:33", after := #[{ on := 11, ground := Ground.guard }], guard := some (11, true) }) (v := undef) rfl (by kernel_rfl) (by kernel_rfl) (by kernel_rfl) (fun _ _ _ h => h) (Or.inr ⟨by rfl, rfl⟩) (by assumption) ?_
          try simp only [Act.put, List.setIfInBounds_toArray, List.set_cons_zero, List.set_cons_succ]
          refine wpAnyH_take (i := 18) (oi := { dst := some 50, op := Op.indexAddr 32 (Operand.tmp 48) (Operand.tmp 49), type := 0, pos := "ref.go:33", after := #[{ on := 16, ground := Ground.data }, { on := 17, ground := Ground.data }, { on := 11, ground := Ground.guard }], guard := some (11, true) }) (v := undef) rfl (by kernel_rfl) (by kernel_rfl) (by kernel_rfl) (fun _ _ _ h => h) (Or.inr ⟨by rfl, rfl⟩) (by assumption) ?_
          try simp only [Act.put, List.setIfInBounds_toArray, List.set_cons_zero, List.set_cons_succ]
          refine wpAnyH_take (i := 19) (oi := { dst := some 51, op := Op.load 35 (Operand.tmp 50), type := 35, pos := "ref.go:33", after := #[{ on := 18, ground := Ground.data }, { on := 11, ground := Ground.guard }], guard := some (11, true) }) (v := undef) rfl (by kernel_rfl) (by kernel_rfl) (by kernel_rfl) (fun _ _ _ h => h) (Or.inr ⟨by rfl, rfl⟩) (by assumption) ?_
          try simp only [Act.put, List.setIfInBounds_toArray, List.set_cons_zero, List.set_cons_succ]
          refine wpAnyH_take (i := 20) (oi := { dst := some 52, op := Op.call { callee := Callee.value (Operand.func 35), args := #[Operand.tmp 47, Operand.tmp 51], argTypes := #[35, 35] }, type := 4, pos := "ref.go:33", after := #[{ on := 15, ground := Ground.data }, { on := 19, ground := Ground.data }, { on := 11, ground := Ground.chain }, { on := 11, ground := Ground.guard }], guard := some (11, true) }) (v := undef) rfl (by kernel_rfl) (by kernel_rfl) (by kernel_rfl) (fun _ _ _ h => h) (Or.inr ⟨by rfl, rfl⟩) (by assumption) ?_
          try simp only [Act.put, List.setIfInBounds_toArray, List.set_cons_zero, List.set_cons_succ]
          refine wpAnyH_take (i := 21) (oi := { dst := some 53, op := Op.unOp UnOp.not 4 (Operand.tmp 52), type := 4, pos := "ref.go:33", after := #[{ on := 20, ground := Ground.data }, { on := 11, ground := Ground.guard }], guard := some (11, true) }) (v := undef) rfl (by kernel_rfl) (by kernel_rfl) (by kernel_rfl) (fun _ _ _ h => h) (Or.inr ⟨by rfl, rfl⟩) (by assumption) ?_
          try simp only [Act.put, List.setIfInBounds_toArray, List.set_cons_zero, List.set_cons_succ]
          refine wpAnyH_take (i := 22) (oi := { dst := some 54, op := Op.pick (Operand.tmp 43) (Operand.tmp 53) (Operand.const (Value.bool false)), type := 4, pos := "ref.go:33", after := #[{ on := 11, ground := Ground.data }, { on := 21, ground := Ground.data }], guard := none }) (v := ?rcv22) rfl (by kernel_rfl) (by kernel_rfl) (by kernel_rfl) (fun _ _ _ h => h) (Or.inl ⟨by rfl, ?rch22⟩) (by assumption) ?rcr22
          case rch22 => ((intro w hSw; (try dsimp only at hSw); go_simp); try with_reducible rfl)
          try simp only [Act.put, List.setIfInBounds_toArray, List.set_cons_zero, List.set_cons_succ]
          refine wpAnyH_take (i := 23) (oi := { dst := some 55, op := Op.move (Operand.tmp 54), type := 4, pos := "ref.go:33", after := #[{ on := 22, ground := Ground.data }, { on := 20, ground := Ground.chain }], guard := none }) (v := ?rcv23) rfl (by kernel_rfl) (by kernel_rfl) (by kernel_rfl) (fun _ _ _ h => h) (Or.inl ⟨by rfl, ?rch23⟩) (by assumption) ?rcr23
          case rch23 => ((intro w hSw; (try dsimp only at hSw); go_simp); try with_reducible rfl)
          try simp only [Act.put, List.setIfInBounds_toArray, List.set_cons_zero, List.set_cons_succ]
          refine wpAnyH_take (i := 24) (oi := { dst := some 56, op := Op.move (Operand.tmp 0), type := 32, pos := "ref.go:33", after := #[{ on := 23, ground := Ground.guard }], guard := some (23, true) }) (v := undef) rfl (by kernel_rfl) (by kernel_rfl) (by kernel_rfl) (fun _ _ _ h => h) (Or.inr ⟨by rfl, rfl⟩) (by assumption) ?_
          try simp only [Act.put, List.setIfInBounds_toArray, List.set_cons_zero, List.set_cons_succ]
          refine wpAnyH_take (i := 25) (oi := { dst := some 57, op := Op.move (Operand.tmp 5), type := 3, pos := "ref.go:33", after := #[{ on := 23, ground := Ground.guard }], guard := some (23, true) }) (v := undef) rfl (by kernel_rfl) (by kernel_rfl) (by kernel_rfl) (fun _ _ _ h => h) (Or.inr ⟨by rfl, rfl⟩) (by assumption) ?_
          try simp only [Act.put, List.setIfInBounds_toArray, List.set_cons_zero, List.set_cons_succ]
          refine wpAnyH_take (i := 26) (oi := { dst := some 58, op := Op.indexAddr 32 (Operand.tmp 56) (Operand.tmp 57), type := 0, pos := "ref.go:33", after := #[{ on := 24, ground := Ground.data }, { on := 25, ground := Ground.data }, { on := 23, ground := Ground.guard }], guard := some (23, true) }) (v := undef) rfl (by kernel_rfl) (by kernel_rfl) (by kernel_rfl) (fun _ _ _ h => h) (Or.inr ⟨by rfl, rfl⟩) (by assumption) ?_
          try simp only [Act.put, List.setIfInBounds_toArray, List.set_cons_zero, List.set_cons_succ]
          refine wpAnyH_take (i := 27) (oi := { dst := some 59, op := Op.load 35 (Operand.tmp 58), type := 35, pos := "ref.go:33", after := #[{ on := 26, ground := Ground.data }, { on := 23, ground := Ground.guard }], guard := some (23, true) }) (v := undef) rfl (by kernel_rfl) (by kernel_rfl) (by kernel_rfl) (fun _ _ _ h => h) (Or.inr ⟨by rfl, rfl⟩) (by assumption) ?_
          try simp only [Act.put, List.setIfInBounds_toArray, List.set_cons_zero, List.set_cons_succ]
          refine wpAnyH_take (i := 28) (oi := { dst := some 60, op := Op.move (Operand.tmp 0), type := 32, pos := "ref.go:33", after := #[{ on := 23, ground := Ground.guard }], guard := some (23, true) }) (v := undef) rfl (by kernel_rfl) (by kernel_rfl) (by kernel_rfl) (fun _ _ _ h => h) (Or.inr ⟨by rfl, rfl⟩) (by assumption) ?_
          try simp only [Act.put, List.setIfInBounds_toArray, List.set_cons_zero, List.set_cons_succ]
          refine wpAnyH_take (i := 29) (oi := { dst := some 61, op := Op.move (Operand.tmp 4), type := 3, pos := "ref.go:33", after := #[{ on := 23, ground := Ground.guard }], guard := some (23, true) }) (v := undef) rfl (by kernel_rfl) (by kernel_rfl) (by kernel_rfl) (fun _ _ _ h => h) (Or.inr ⟨by rfl, rfl⟩) (by assumption) ?_
          try simp only [Act.put, List.setIfInBounds_toArray, List.set_cons_zero, List.set_cons_succ]
          refine wpAnyH_take (i := 30) (oi := { dst := some 62, op := Op.indexAddr 32 (Operand.tmp 60) (Operand.tmp 61), type := 0, pos := "ref.go:33", after := #[{ on := 28, ground := Ground.data }, { on := 29, ground := Ground.data }, { on := 23, ground := Ground.guard }], guard := some (23, true) }) (v := undef) rfl (by kernel_rfl) (by kernel_rfl) (by kernel_rfl) (fun _ _ _ h => h) (Or.inr ⟨by rfl, rfl⟩) (by assumption) ?_
          try simp only [Act.put, List.setIfInBounds_toArray, List.set_cons_zero, List.set_cons_succ]
          refine wpAnyH_take (i := 31) (oi := { dst := some 63, op := Op.load 35 (Operand.tmp 62), type := 35, pos := "ref.go:33", after := #[{ on := 30, ground := Ground.data }, { on := 23, ground := Ground.guard }], guard := some (23, true) }) (v := undef) rfl (by kernel_rfl) (by kernel_rfl) (by kernel_rfl) (fun _ _ _ h => h) (Or.inr ⟨by rfl, rfl⟩) (by assumption) ?_
          try simp only [Act.put, List.setIfInBounds_toArray, List.set_cons_zero, List.set_cons_succ]
          refine wpAnyH_take (i := 32) (oi := { dst := some 64, op := Op.call { callee := Callee.value (Operand.func 35), args := #[Operand.tmp 59, Operand.tmp 63], argTypes := #[35, 35] }, type := 4, pos := "ref.go:33", after := #[{ on := 27, ground := Ground.data }, { on := 31, ground := Ground.data }, { on := 23, ground := Ground.chain }, { on := 23, ground := Ground.guard }], guard := some (23, true) }) (v := undef) rfl (by kernel_rfl) (by kernel_rfl) (by kernel_rfl) (fun _ _ _ h => h) (Or.inr ⟨by rfl, rfl⟩) (by assumption) ?_
          try simp only [Act.put, List.setIfInBounds_toArray, List.set_cons_zero, List.set_cons_succ]
          refine wpAnyH_take (i := 33) (oi := { dst := some 65, op := Op.unOp UnOp.not 4 (Operand.tmp 64), type := 4, pos := "ref.go:33", after := #[{ on := 32, ground := Ground.data }, { on := 23, ground := Ground.guard }], guard := some (23, true) }) (v := undef) rfl (by kernel_rfl) (by kernel_rfl) (by kernel_rfl) (fun _ _ _ h => h) (Or.inr ⟨by rfl, rfl⟩) (by assumption) ?_
          try simp only [Act.put, List.setIfInBounds_toArray, List.set_cons_zero, List.set_cons_succ]
          refine wpAnyH_take (i := 34) (oi := { dst := some 66, op := Op.pick (Operand.tmp 55) (Operand.tmp 65) (Operand.const (Value.bool false)), type := 4, pos := "ref.go:33", after := #[{ on := 23, ground := Ground.data }, { on := 33, ground := Ground.data }], guard := none }) (v := ?rcv34) rfl (by kernel_rfl) (by kernel_rfl) (by kernel_rfl) (fun _ _ _ h => h) (Or.inl ⟨by rfl, ?rch34⟩) (by assumption) ?rcr34
          case rch34 => ((intro w hSw; (try dsimp only at hSw); go_simp); try with_reducible rfl)
          try simp only [Act.put, List.setIfInBounds_toArray, List.set_cons_zero, List.set_cons_succ]
          refine wpAnyH_done (by kernel_rfl) ?_ _
          go_wp2_with fail
          go_meet
          exact ⟨by rw [HVV.out], by assumption⟩
        case rest =>
         obtain ⟨rfl, hbc⟩ := hcut
         have hbw := below_tr hbc HB.out
         clear a0 a1 a2 a3 a4 a5 a6 a7 d0 d1 d2 d3 d4 d5 d6 d7
         cases V with
         | true =>
          have hv := HV.out
          simp only [Bool.and_eq_true, decide_eq_true_eq, Bool.not_eq_true', Bool.true_eq] at hv
          have HVV : Hid (chkL l = 260) := HBD.out (HBB.out hv.1.1 hv.1.2 hv.2)
          clear hv
          go_wp2
          go_ret
          exact ⟨ret_int HVV.out.symm, hbw⟩
         | false =>
          have HNX : Hid (rowOk1 l i (k + 1)) := HN.out (fun e => either_of e HV.out)
          go_wp2
          exact ⟨⟨k + 1, by omega, by go_num, HNX.out, hbw⟩, by simp [intOf]; omega⟩
       ·have hke : k = i := by omega
        subst hke
        have HNX := hid (rowsOk_succ HRO.out HR1.out)
        go_wp2
        exact ⟨⟨k + 1, by omega, by go_num, HNX.out, HB.out⟩, by simp [intOf]; omega⟩
     ·have hie : i = l.length := by omega
      subst hie
      have HVV : Hid (chkL l = 0) := HG.out ⟨HOA.out, pairs_rows HRO.out⟩
      go_wp2
      go_ret
      exact ⟨ret_int HVV.out.symm, HB.out⟩
end Go.Proofs.YtabkmdhkfbcldaaGreat
namespace Go.Proofs.YtabkmdhkfbcldaaGreat
open Go.RowKit
def pairC (p : ByteArray × Int) : List Value := [.string p.1, .int .i64 p.2]
theorem EPair : Elem Tryz.prog 115 119 2 24 (.agg #[.string .empty, .int .i64 0]) := Elem.mk' Tryz.underlying115 (by kernel_rfl) rfl (by decide)
def idxG (m : Prs) (k : ByteArray) : Option Nat := m.findIdx? (fun p => decide (p.1 = k))
def idxN (o : Option Nat) : Int := match o with | some k => k | none => 0
theorem idxG_some {m : Prs} {k : ByteArray} {j : Nat} (h : idxG m k = some j) : ∃ hj : j < m.length, getV m k = some m[j].2 := by
 unfold idxG at h
 obtain ⟨hj, h1, h2⟩ := List.findIdx?_eq_some_iff_getElem.1 h
 refine ⟨hj, ?_⟩
 have : m.find? (fun p => decide (p.1 = k)) = some m[j] := by
  rw [List.find?_eq_some_iff_getElem]
  exact ⟨h1, j, hj, rfl, fun i hi => by simpa using h2 i hi⟩
 unfold getV
 rw [this]; rfl
theorem idxG_none {m : Prs} {k : ByteArray} (h : idxG m k = none) : getV m k = none := by
 unfold idxG at h
 rw [List.findIdx?_eq_none_iff] at h
 unfold getV
 rw [List.find?_eq_none.2 (fun p hp => by simpa using h p hp)]; rfl
theorem idxG_at {m : Prs} {k : ByteArray} {j : Nat} (hj : j < m.length) (h : ∀ i (hi : i < m.length), i < j → m[i].1 ≠ k) (h1 : m[j].1 = k) : idxG m k = some j := by
 unfold idxG
 rw [List.findIdx?_eq_some_iff_getElem]
 exact ⟨hj, by simpa using h1, fun i hi => by simpa using h i (by omega) hi⟩
theorem idxG_no {m : Prs} {k : ByteArray} (h : ∀ i (hi : i < m.length), m[i].1 ≠ k) : idxG m k = none := by
 unfold idxG
 rw [List.findIdx?_eq_none_iff]
 intro p hp
 obtain ⟨i, hi, rfl⟩ := List.getElem_of_mem hp
 simpa using h i hi
theorem pair_cells {w : World} {b o : Nat} {m : Prs} (h : Row w (some ⟨b, o, none⟩) (m.flatMap pairC)) (k : Nat) (hk : k < m.length) : w.cell? ⟨b, o + k * 2, none⟩ = some (.string m[k].1) ∧ w.cell? ⟨b, o + k * 2 + 1, none⟩ = some (.int .i64 m[k].2) := by
 have each : ∀ j (hj : j < 2), w.cell? ⟨b, o + (k * 2 + j), none⟩ = (pairC m[k])[j]? := fun j hj => by
  have hl := flat_len pairC 2 (fun _ => rfl) m
  rw [show k * 2 + j = 2 * k + j from by omega]
  rw [h.cell (2 * k + j) (by omega), ← flat_get pairC 2 (fun _ => rfl) m k hk j hj]
  exact (List.getElem?_eq_getElem (by have : 2 * k + j < (m.flatMap pairC).length := (by omega); exact this)).symm
 exact ⟨each 0 (by omega), each 1 (by omega)⟩
set_option maxHeartbeats 1000000 in
theorem get_anyLn (m : Prs) (p : Option Addr) (c : Nat) (key : ByteArray) (w : World) (hl : m.length ≤ 1000000) (hrow : Row w p (m.flatMap pairC)) :
  Calls Tryz.prog 57 #[.slice p m.length c, .string key] w fun e w' => e = .returned (.tuple #[.int .i64 (idxN (idxG m key)), .bool (idxG m key).isSome]) ∧ w' = w := by
 have HR := hid hrow
 clear hrow
 go_enter Tryz.func57, Tryz.ntmps57
 go_wp2
 go_loop [6] (fun i => ∃ k : Nat, k ≤ m.length ∧ i = .int .i64 k ∧ ∀ i (hi : i < m.length), i < k → m[i].1 ≠ key) (fun i => m.length - (intOf i).toNat)
 case atStart => exact ⟨0, Nat.zero_le _, rfl, fun i _ hi => by omega⟩
 case round =>
  obtain ⟨k, hk, rfl, hno⟩ := hrel
  have HNO := hid hno
  clear hno
  by_cases hlt : k < m.length
  ·obtain ⟨b, o, rfl, hb, -⟩ := HR.out.at (by have := flat_len pairC 2 (fun _ => rfl) m; omega)
   obtain ⟨c0, c1⟩ := pair_cells HR.out k hlt
   by_cases he : m[k].1 = key
   ·have HV := hid (idxG_at hlt HNO.out he)
    have he1 := strEq he
    rw [he] at c0
    clear he he1
    go_wp2
    go_ret2
    exact ⟨by rw [HV.out]; rfl, rfl⟩
   ·have HN : Hid (∀ i (hi : i < m.length), i < k + 1 → m[i].1 ≠ key) := fun i hi hik => by
     by_cases e : i = k
     ·subst e; exact he
     ·exact HNO.out i hi (by omega)
    have he1 := strNe he
    clear he
    go_wp2
    exact ⟨⟨k + 1, by omega, by go_num, HN.out⟩, by simp [intOf]; omega⟩
  ·have HV := hid (idxG_no (m := m) (k := key) (fun i hi => HNO.out i hi (by omega)))
   go_wp2
   go_ret2
   exact ⟨by rw [HV.out]; rfl, rfl⟩
theorem belowN2 {B : Nat} {a w : World} (h : Below B a w) (n : Nat) : Below B a (w.drewN n) := ⟨h.os, h.tape, h.output, h.size, h.block⟩
def applyV (c : Cl) (st : Option Int) : Value := .tuple #[.int .i64 (applyC c st).1, .int .i64 (applyC c st).2.1, .bool (applyC c st).2.2.1.isSome, .int .i64 ((applyC c st).2.2.1.getD 0), .bool (applyC c st).2.2.2]
set_option maxHeartbeats 2000000 in
theorem apply_any (c : Cl) (st : Option Int) (w : World) :
  Calls Tryz.prog 58 #[.agg c.cellsLn.toArray, .bool st.isSome, .int .i64 (st.getD 0)] w fun e w' => e = .returned (applyV c st) ∧ Below w.heap.size w w' := by
 obtain ⟨cw, ckd, cky, cva, cfr, cto, can, cer⟩ := c
 show Calls Tryz.prog 58 #[.agg #[.int .i64 cw, .int .i64 ckd, .string cky, .int .i64 cva, .int .i64 cfr, .int .i64 cto, .int .i64 can, .int .i64 cer], .bool st.isSome, .int .i64 (st.getD 0)] w _
 have hbx : ∀ o, Below w.heap.size w (w.alloc o) := fun o => (Below.refl _ _).alloc (Nat.le_refl _) o
 have HBX := hid hbx
 clear hbx
 cases st with
 | some v =>
  simp only [Option.isSome_some, Option.getD_some]
  by_cases hk : ckd = 1
  ·subst hk
   have HV : Hid (applyV ⟨cw, 1, cky, cva, cfr, cto, can, cer⟩ (some v) = .tuple #[.int .i64 0, .int .i64 5, .bool true, .int .i64 v, .bool true]) := rfl
   go_enter Tryz.func58, Tryz.ntmps58
   go_wp2
   exact bodyPost_ret (v := .tuple #[.int .i64 0, .int .i64 5, .bool true, .int .i64 v, .bool true]) (by simp [results, Tryz.results58, go_sem]) rfl ⟨by rw [HV.out], HBX.out _⟩
  ·have hk1 : (ckd == 1) = false := by simpa using hk
   have HV : Hid (applyV ⟨cw, ckd, cky, cva, cfr, cto, can, cer⟩ (some v) = .tuple #[.int .i64 v, .int .i64 0, .bool true, .int .i64 v, .bool true]) := by
    unfold Hid applyV applyC; simp [hk]
   by_cases hk2 : ckd = 2
   ·subst hk2
    go_enter Tryz.func58, Tryz.ntmps58
    go_wp2
    exact bodyPost_ret (v := .tuple #[.int .i64 v, .int .i64 0, .bool true, .int .i64 v, .bool true]) (by simp [results, Tryz.results58, go_sem]) rfl ⟨by rw [HV.out], HBX.out _⟩
   ·have hk3 : (ckd == 2) = false := by simpa using hk2
    go_enter Tryz.func58, Tryz.ntmps58
    go_wp2
    exact bodyPost_ret (v := .tuple #[.int .i64 v, .int .i64 0, .bool true, .int .i64 v, .bool true]) (by simp [results, Tryz.results58, go_sem]) rfl ⟨by rw [HV.out], HBX.out _⟩
 | none =>
  simp only [Option.isSome_none, Option.getD_none]
  by_cases hk : ckd = 1
  ·subst hk
   have HV : Hid (applyV ⟨cw, 1, cky, cva, cfr, cto, can, cer⟩ none = .tuple #[.int .i64 0, .int .i64 0, .bool true, .int .i64 cva, .bool true]) := rfl
   go_enter Tryz.func58, Tryz.ntmps58
   go_wp2
   go_quiet (fail)
   go_wp2
   exact bodyPost_ret (v := .tuple #[.int .i64 0, .int .i64 0, .bool true, .int .i64 cva, .bool true]) (by simp [results, Tryz.results58, go_sem]) rfl ⟨by rw [HV.out], belowN2 (HBX.out _) _⟩
  ·have hk1 : (ckd == 1) = false := by simpa using hk
   by_cases hk2 : ckd = 2
   ·subst hk2
    have HV : Hid (applyV ⟨cw, 2, cky, cva, cfr, cto, can, cer⟩ none = .tuple #[.int .i64 0, .int .i64 4, .bool false, .int .i64 0, .bool true]) := rfl
    go_enter Tryz.func58, Tryz.ntmps58
    go_wp2
    exact bodyPost_ret (v := .tuple #[.int .i64 0, .int .i64 4, .bool false, .int .i64 0, .bool true]) (by simp [results, Tryz.results58, go_sem]) rfl ⟨by rw [HV.out], HBX.out _⟩
   ·have hk3 : (ckd == 2) = false := by simpa using hk2
    have HV : Hid (applyV ⟨cw, ckd, cky, cva, cfr, cto, can, cer⟩ none = .tuple #[.int .i64 0, .int .i64 0, .bool false, .int .i64 0, .bool false]) := by
     unfold Hid applyV applyC; simp [hk, hk2]
    go_enter Tryz.func58, Tryz.ntmps58
    go_wp2
    exact bodyPost_ret (v := .tuple #[.int .i64 0, .int .i64 0, .bool false, .int .i64 0, .bool false]) (by simp [results, Tryz.results58, go_sem]) rfl ⟨by rw [HV.out], HBX.out _⟩
end Go.Proofs.YtabkmdhkfbcldaaGreat
