/-
  behind, try and Some of the document.
  try and Some of the document.
  fits of the document.
  Keys and Of of the document.
-/
import Derived.Test.YtdkknnmgdghioaaJF8
import Derived.Test.YtdkknnmgdghioaaJF9
import Derived.Test.YtdkknnmgdghioaaJF7
import Derived.Test.YtdkknnmgdghioaaJF5
import Derived.Deep.QuietTactic
import Derived.BigQuiet
import Derived.Deep.DeepCutAuto
namespace Go.Proofs.Ytdkknnmgdghioaa
open Go.RowKit

theorem EBool : Elem Try.prog 54 4 1 1 (.bool false) := Elem.mk' Try.underlying54 (by kernel_rfl) rfl (by decide)
/-- Which calls an order has. -/
def usedOf (l : List Cl) (o : List Nat) : List Bool := (List.range l.length).map (fun k => o.contains k)
theorem used_len (l : List Cl) (o : List Nat) : (usedOf l o).length = l.length := by simp [usedOf]
theorem used_get {l : List Cl} {o : List Nat} {k : Nat} (hk : k < l.length) : (usedOf l o).getD k false = o.contains k := by simp [usedOf, List.getD_eq_getElem?_getD, hk]
theorem bool_at {w : World} {b o : Nat} {ys : List Bool} (h : Row w (some ⟨b, o, none⟩) (ys.map Value.bool)) (k : Nat) (hk : k < ys.length) : w.cell? ⟨b, o + k, none⟩ = some (.bool (ys.getD k false)) := by
  have := h.cell k (by simpa using hk)
  rw [this]
  simp [List.getD_eq_getElem?_getD, hk]
theorem used_set {l : List Cl} {o : List Nat} {i : Nat} (_ : i < l.length) : ((usedOf l o).map Value.bool).set i (.bool true) = (usedOf l (o ++ [i])).map Value.bool := by
  apply List.ext_getElem
  · simp [usedOf]
  · intro k h1 h2
    rw [List.getElem_set]
    simp only [usedOf, List.getElem_map, List.getElem_range]
    by_cases hk : i = k
    · subst hk; simp
    · rw [if_neg hk]
      have : ¬ k = i := fun e => hk e.symm
      simp [this]
def behTo (l : List Cl) (o : List Nat) (i k : Nat) : Prop := ∀ j, j < k → (decide (j ≠ i) && !o.contains j && aheadC (cAt l j) (cAt l i)) = false
theorem behTo_succ {l : List Cl} {o : List Nat} {i k : Nat} (h : behTo l o i k) (h1 : (decide (k ≠ i) && !o.contains k && aheadC (cAt l k) (cAt l i)) = false) : behTo l o i (k + 1) := fun j hj => by
  by_cases e : j = k
  · subst e; exact h1
  · exact h j (by omega)
theorem beh_no {l : List Cl} {o : List Nat} {i : Nat} (h : behTo l o i l.length) : behindIn l o i = false := by
  unfold behindIn
  rw [List.any_eq_false]
  intro k hk
  have := h k (List.mem_range.1 hk)
  simpa using this
theorem beh_yes {l : List Cl} {o : List Nat} {i k : Nat} (hk : k < l.length) (h : (decide (k ≠ i) && !o.contains k && aheadC (cAt l k) (cAt l i)) = true) : behindIn l o i = true := by
  unfold behindIn
  rw [List.any_eq_true]
  exact ⟨k, List.mem_range.2 hk, h⟩
set_option maxRecDepth 20000 in
set_option maxHeartbeats 4000000 in
theorem behind_any (l : List Cl) (p : Option Addr) (c : Nat) (o : List Nat) (q : Option Addr) (d i : Nat) (w : World) (hl : l.length ≤ 1000000) (hi : i < l.length) (hrow : Row w p (l.flatMap Cl.cells)) (hu : Row w q ((usedOf l o).map Value.bool)) :
    Calls Try.prog 44 #[.slice p l.length c, .slice q l.length d, .int .i64 (i : Int)] w fun e w' => e = .returned (.bool (behindIn l o i)) ∧ Below w.heap.size w w' := by
  have HR := hid hrow
  have HU := hid hu
  clear hrow hu
  go_enter Try.func44, Try.ntmps44
  go_wp2
  go_loopw [7] (fun u wr => ∃ k : Nat, k ≤ l.length ∧ u = .int .i64 k ∧ behTo l o i k ∧ Below w.heap.size w wr) (fun u _ => l.length - (intOf u).toNat)
  case atStart => exact ⟨0, Nat.zero_le _, rfl, fun j hj => by omega, Below.refl _ _⟩
  case round =>
    obtain ⟨k, hk, rfl, hbt, hb⟩ := hrel
    have HBT := hid hbt
    have HB := hid hb
    clear hbt hb
    by_cases hlt : k < l.length
    · obtain ⟨bl, ol, rfl, hbl, -⟩ := (HR.out.below HB.out).at (by have := flat_len Cl.cells 8 (fun _ => rfl) l; omega)
      obtain ⟨a0, a1, a2, a3, a4, a5, a6, a7⟩ := cl_held (HR.out.below HB.out) k hlt
      obtain ⟨d0, d1, d2, d3, d4, d5, d6, d7⟩ := cl_held (HR.out.below HB.out) i hi
      have hub := HU.out.below HB.out
      obtain ⟨bu, ou, rfl, hbu, -⟩ := hub.at (by rw [List.length_map, used_len]; omega)
      have c0 : ∀ w', Below wr.heap.size wr w' → w'.cell? ⟨bu, ou + k, none⟩ = some (.bool (o.contains k)) := fun w' hb => by
        have := bool_at (hub.below hb) k (by rw [used_len]; exact hlt)
        rwa [used_get hlt] at this
      have HA := hid (fun w1 => rahead_lit (cAt l k) (cAt l i) w1)
      have HN := hid (fun h => behTo_succ HBT.out (k := k) h)
      have HY := hid (fun h => beh_yes (o := o) (i := i) hlt h)
      obtain ⟨V, hV⟩ : ∃ V, V = (decide (k ≠ i) && !o.contains k && aheadC (cAt l k) (cAt l i)) := ⟨_, rfl⟩
      rw [← hV] at HN HY
      have HV := hid hV
      clear hub hV
      generalize o.contains k = uk at c0 HV
      have hq1 : decide ((i : Int) < 0) = false := decide_eq_false (by omega)
      have hq2 : decide ((l.length : Int) ≤ (i : Int)) = false := decide_eq_false (by omega)
      have hq3 : decide (l.length ≤ i) = false := decide_eq_false (by omega)
      have hx1 : decide ((k : Int) < 0) = false := decide_eq_false (by omega)
      have hx2 : decide ((l.length : Int) ≤ (k : Int)) = false := decide_eq_false (by omega)
      have hx3 : decide (l.length ≤ k) = false := decide_eq_false (by omega)
      go_upto_region 4 with (fail)
      go_cut [34] from 14 to 34 (fun v wx => v = .bool V ∧ Below wr.heap.size wr wx)
      case first =>
        by_cases hki : k = i
        · have HVV : Hid (V = false) := by unfold Hid; rw [HV.out]; simp [hki]
          have hci : (k : Int) = (i : Int) := by omega
          have e1 : ((k : Int) == (i : Int)) = true := by simpa using hci
          have e2 : ((k : Int) != (i : Int)) = false := by simpa using hci
          have e3 : (k == i) = true := by simpa using hki
          have e4 : (k != i) = false := by simpa using hki
          clear hki hci
          refine wp_region_held_drew (S := fun w' => Below wr.heap.size wr w') (by kernel_rfl) ((Below.refl _ _).drew) (fun hHeld => ?_)
          refine wpAnyH_take (i := 0) (oi := { dst := some 14, op := Op.move (Operand.tmp 7), type := 3, pos := "ref.go:170", after := #[], guard := none }) (v := ?bav0) rfl (by kernel_rfl) (by kernel_rfl) (by kernel_rfl) (fun _ _ _ h => h) (Or.inl ⟨by rfl, ?bah0⟩) (by assumption) ?bar0
          case bah0 => ((intro w hSw; (try dsimp only at hSw); go_simp); try with_reducible rfl)
          try simp only [Act.put, List.setIfInBounds_toArray, List.set_cons_zero, List.set_cons_succ]
          refine wpAnyH_take (i := 1) (oi := { dst := some 15, op := Op.move (Operand.tmp 2), type := 3, pos := "ref.go:170", after := #[], guard := none }) (v := ?bav1) rfl (by kernel_rfl) (by kernel_rfl) (by kernel_rfl) (fun _ _ _ h => h) (Or.inl ⟨by rfl, ?bah1⟩) (by assumption) ?bar1
          case bah1 => ((intro w hSw; (try dsimp only at hSw); go_simp); try with_reducible rfl)
          try simp only [Act.put, List.setIfInBounds_toArray, List.set_cons_zero, List.set_cons_succ]
          refine wpAnyH_take (i := 2) (oi := { dst := some 16, op := Op.binOp BinOp.neq 3 (Operand.tmp 14) (Operand.tmp 15) 3, type := 4, pos := "ref.go:170", after := #[{ on := 0, ground := Ground.data }, { on := 1, ground := Ground.data }], guard := none }) (v := ?bav2) rfl (by kernel_rfl) (by kernel_rfl) (by kernel_rfl) (fun _ _ _ h => h) (Or.inl ⟨by rfl, ?bah2⟩) (by assumption) ?bar2
          case bah2 => ((intro w hSw; (try dsimp only at hSw); go_simp); try with_reducible rfl)
          try simp only [Act.put, List.setIfInBounds_toArray, List.set_cons_zero, List.set_cons_succ]
          refine wpAnyH_take (i := 3) (oi := { dst := some 17, op := Op.move (Operand.tmp 16), type := 4, pos := "ref.go:170", after := #[{ on := 2, ground := Ground.data }], guard := none }) (v := ?bav3) rfl (by kernel_rfl) (by kernel_rfl) (by kernel_rfl) (fun _ _ _ h => h) (Or.inl ⟨by rfl, ?bah3⟩) (by assumption) ?bar3
          case bah3 => ((intro w hSw; (try dsimp only at hSw); go_simp); try with_reducible rfl)
          try simp only [Act.put, List.setIfInBounds_toArray, List.set_cons_zero, List.set_cons_succ]
          refine wpAnyH_take (i := 4) (oi := { dst := some 18, op := Op.move (Operand.tmp 1), type := 54, pos := "ref.go:170", after := #[{ on := 3, ground := Ground.guard }], guard := some (3, true) }) (v := undef) rfl (by kernel_rfl) (by kernel_rfl) (by kernel_rfl) (fun _ _ _ h => h) (Or.inr ⟨by rfl, rfl⟩) (by assumption) ?_
          try simp only [Act.put, List.setIfInBounds_toArray, List.set_cons_zero, List.set_cons_succ]
          refine wpAnyH_take (i := 5) (oi := { dst := some 19, op := Op.move (Operand.tmp 7), type := 3, pos := "ref.go:170", after := #[{ on := 3, ground := Ground.guard }], guard := some (3, true) }) (v := undef) rfl (by kernel_rfl) (by kernel_rfl) (by kernel_rfl) (fun _ _ _ h => h) (Or.inr ⟨by rfl, rfl⟩) (by assumption) ?_
          try simp only [Act.put, List.setIfInBounds_toArray, List.set_cons_zero, List.set_cons_succ]
          refine wpAnyH_take (i := 6) (oi := { dst := some 20, op := Op.indexAddr 54 (Operand.tmp 18) (Operand.tmp 19), type := 0, pos := "ref.go:170", after := #[{ on := 4, ground := Ground.data }, { on := 5, ground := Ground.data }, { on := 3, ground := Ground.guard }], guard := some (3, true) }) (v := undef) rfl (by kernel_rfl) (by kernel_rfl) (by kernel_rfl) (fun _ _ _ h => h) (Or.inr ⟨by rfl, rfl⟩) (by assumption) ?_
          try simp only [Act.put, List.setIfInBounds_toArray, List.set_cons_zero, List.set_cons_succ]
          refine wpAnyH_take (i := 7) (oi := { dst := some 21, op := Op.load 4 (Operand.tmp 20), type := 4, pos := "ref.go:170", after := #[{ on := 6, ground := Ground.data }, { on := 3, ground := Ground.guard }], guard := some (3, true) }) (v := undef) rfl (by kernel_rfl) (by kernel_rfl) (by kernel_rfl) (fun _ _ _ h => h) (Or.inr ⟨by rfl, rfl⟩) (by assumption) ?_
          try simp only [Act.put, List.setIfInBounds_toArray, List.set_cons_zero, List.set_cons_succ]
          refine wpAnyH_take (i := 8) (oi := { dst := some 22, op := Op.unOp UnOp.not 4 (Operand.tmp 21), type := 4, pos := "ref.go:170", after := #[{ on := 7, ground := Ground.data }, { on := 3, ground := Ground.guard }], guard := some (3, true) }) (v := undef) rfl (by kernel_rfl) (by kernel_rfl) (by kernel_rfl) (fun _ _ _ h => h) (Or.inr ⟨by rfl, rfl⟩) (by assumption) ?_
          try simp only [Act.put, List.setIfInBounds_toArray, List.set_cons_zero, List.set_cons_succ]
          refine wpAnyH_take (i := 9) (oi := { dst := some 23, op := Op.pick (Operand.tmp 17) (Operand.tmp 22) (Operand.const (Value.bool false)), type := 4, pos := "ref.go:170", after := #[{ on := 3, ground := Ground.data }, { on := 8, ground := Ground.data }], guard := none }) (v := ?bav9) rfl (by kernel_rfl) (by kernel_rfl) (by kernel_rfl) (fun _ _ _ h => h) (Or.inl ⟨by rfl, ?bah9⟩) (by assumption) ?bar9
          case bah9 => ((intro w hSw; (try dsimp only at hSw); go_simp); try with_reducible rfl)
          try simp only [Act.put, List.setIfInBounds_toArray, List.set_cons_zero, List.set_cons_succ]
          refine wpAnyH_take (i := 10) (oi := { dst := some 24, op := Op.move (Operand.tmp 23), type := 4, pos := "ref.go:170", after := #[{ on := 9, ground := Ground.data }, { on := 3, ground := Ground.chain }], guard := none }) (v := ?bav10) rfl (by kernel_rfl) (by kernel_rfl) (by kernel_rfl) (fun _ _ _ h => h) (Or.inl ⟨by rfl, ?bah10⟩) (by assumption) ?bar10
          case bah10 => ((intro w hSw; (try dsimp only at hSw); go_simp); try with_reducible rfl)
          try simp only [Act.put, List.setIfInBounds_toArray, List.set_cons_zero, List.set_cons_succ]
          refine wpAnyH_take (i := 11) (oi := { dst := some 25, op := Op.move (Operand.tmp 0), type := 22, pos := "ref.go:170", after := #[{ on := 10, ground := Ground.guard }], guard := some (10, true) }) (v := undef) rfl (by kernel_rfl) (by kernel_rfl) (by kernel_rfl) (fun _ _ _ h => h) (Or.inr ⟨by rfl, rfl⟩) (by assumption) ?_
          try simp only [Act.put, List.setIfInBounds_toArray, List.set_cons_zero, List.set_cons_succ]
          refine wpAnyH_take (i := 12) (oi := { dst := some 26, op := Op.move (Operand.tmp 7), type := 3, pos := "ref.go:170", after := #[{ on := 10, ground := Ground.guard }], guard := some (10, true) }) (v := undef) rfl (by kernel_rfl) (by kernel_rfl) (by kernel_rfl) (fun _ _ _ h => h) (Or.inr ⟨by rfl, rfl⟩) (by assumption) ?_
          try simp only [Act.put, List.setIfInBounds_toArray, List.set_cons_zero, List.set_cons_succ]
          refine wpAnyH_take (i := 13) (oi := { dst := some 27, op := Op.indexAddr 22 (Operand.tmp 25) (Operand.tmp 26), type := 0, pos := "ref.go:170", after := #[{ on := 11, ground := Ground.data }, { on := 12, ground := Ground.data }, { on := 10, ground := Ground.guard }], guard := some (10, true) }) (v := undef) rfl (by kernel_rfl) (by kernel_rfl) (by kernel_rfl) (fun _ _ _ h => h) (Or.inr ⟨by rfl, rfl⟩) (by assumption) ?_
          try simp only [Act.put, List.setIfInBounds_toArray, List.set_cons_zero, List.set_cons_succ]
          refine wpAnyH_take (i := 14) (oi := { dst := some 28, op := Op.load 38 (Operand.tmp 27), type := 38, pos := "ref.go:170", after := #[{ on := 13, ground := Ground.data }, { on := 10, ground := Ground.guard }], guard := some (10, true) }) (v := undef) rfl (by kernel_rfl) (by kernel_rfl) (by kernel_rfl) (fun _ _ _ h => h) (Or.inr ⟨by rfl, rfl⟩) (by assumption) ?_
          try simp only [Act.put, List.setIfInBounds_toArray, List.set_cons_zero, List.set_cons_succ]
          refine wpAnyH_take (i := 15) (oi := { dst := some 29, op := Op.move (Operand.tmp 0), type := 22, pos := "ref.go:170", after := #[{ on := 10, ground := Ground.guard }], guard := some (10, true) }) (v := undef) rfl (by kernel_rfl) (by kernel_rfl) (by kernel_rfl) (fun _ _ _ h => h) (Or.inr ⟨by rfl, rfl⟩) (by assumption) ?_
          try simp only [Act.put, List.setIfInBounds_toArray, List.set_cons_zero, List.set_cons_succ]
          refine wpAnyH_take (i := 16) (oi := { dst := some 30, op := Op.move (Operand.tmp 2), type := 3, pos := "ref.go:170", after := #[{ on := 10, ground := Ground.guard }], guard := some (10, true) }) (v := undef) rfl (by kernel_rfl) (by kernel_rfl) (by kernel_rfl) (fun _ _ _ h => h) (Or.inr ⟨by rfl, rfl⟩) (by assumption) ?_
          try simp only [Act.put, List.setIfInBounds_toArray, List.set_cons_zero, List.set_cons_succ]
          refine wpAnyH_take (i := 17) (oi := { dst := some 31, op := Op.indexAddr 22 (Operand.tmp 29) (Operand.tmp 30), type := 0, pos := "ref.go:170", after := #[{ on := 15, ground := Ground.data }, { on := 16, ground := Ground.data }, { on := 10, ground := Ground.guard }], guard := some (10, true) }) (v := undef) rfl (by kernel_rfl) (by kernel_rfl) (by kernel_rfl) (fun _ _ _ h => h) (Or.inr ⟨by rfl, rfl⟩) (by assumption) ?_
          try simp only [Act.put, List.setIfInBounds_toArray, List.set_cons_zero, List.set_cons_succ]
          refine wpAnyH_take (i := 18) (oi := { dst := some 32, op := Op.load 38 (Operand.tmp 31), type := 38, pos := "ref.go:170", after := #[{ on := 17, ground := Ground.data }, { on := 10, ground := Ground.guard }], guard := some (10, true) }) (v := undef) rfl (by kernel_rfl) (by kernel_rfl) (by kernel_rfl) (fun _ _ _ h => h) (Or.inr ⟨by rfl, rfl⟩) (by assumption) ?_
          try simp only [Act.put, List.setIfInBounds_toArray, List.set_cons_zero, List.set_cons_succ]
          refine wpAnyH_take (i := 19) (oi := { dst := some 33, op := Op.call { callee := Callee.value (Operand.func 24), args := #[Operand.tmp 28, Operand.tmp 32], argTypes := #[38, 38] }, type := 4, pos := "ref.go:170", after := #[{ on := 14, ground := Ground.data }, { on := 18, ground := Ground.data }, { on := 10, ground := Ground.chain }, { on := 10, ground := Ground.guard }], guard := some (10, true) }) (v := undef) rfl (by kernel_rfl) (by kernel_rfl) (by kernel_rfl) (fun _ _ _ h => h) (Or.inr ⟨by rfl, rfl⟩) (by assumption) ?_
          try simp only [Act.put, List.setIfInBounds_toArray, List.set_cons_zero, List.set_cons_succ]
          refine wpAnyH_take (i := 20) (oi := { dst := some 34, op := Op.pick (Operand.tmp 24) (Operand.tmp 33) (Operand.const (Value.bool false)), type := 4, pos := "ref.go:170", after := #[{ on := 10, ground := Ground.data }, { on := 19, ground := Ground.data }], guard := none }) (v := ?bav20) rfl (by kernel_rfl) (by kernel_rfl) (by kernel_rfl) (fun _ _ _ h => h) (Or.inl ⟨by rfl, ?bah20⟩) (by assumption) ?bar20
          case bah20 => ((intro w hSw; (try dsimp only at hSw); go_simp); try with_reducible rfl)
          try simp only [Act.put, List.setIfInBounds_toArray, List.set_cons_zero, List.set_cons_succ]
          refine wpAnyH_done (by kernel_rfl) ?_ _
          go_wp2_with fail
          go_meet
          exact ⟨by rw [HVV.out], by assumption⟩
        · have hci : ¬ (k : Int) = (i : Int) := by omega
          have e1 : ((k : Int) == (i : Int)) = false := by simpa using hci
          have e2 : ((k : Int) != (i : Int)) = true := by simpa using hci
          have e3 : (k == i) = false := by simpa using hki
          have e4 : (k != i) = true := by simpa using hki
          cases uk with
          | true =>
            have HVV : Hid (V = false) := by unfold Hid; rw [HV.out]; simp
            clear hki hci
            refine wp_region_held_drew (S := fun w' => Below wr.heap.size wr w') (by kernel_rfl) ((Below.refl _ _).drew) (fun hHeld => ?_)
            refine wpAnyH_take (i := 0) (oi := { dst := some 14, op := Op.move (Operand.tmp 7), type := 3, pos := "ref.go:170", after := #[], guard := none }) (v := ?bbv0) rfl (by kernel_rfl) (by kernel_rfl) (by kernel_rfl) (fun _ _ _ h => h) (Or.inl ⟨by rfl, ?bbh0⟩) (by assumption) ?bbr0
            case bbh0 => ((intro w hSw; (try dsimp only at hSw); go_simp); try with_reducible rfl)
            try simp only [Act.put, List.setIfInBounds_toArray, List.set_cons_zero, List.set_cons_succ]
            refine wpAnyH_take (i := 1) (oi := { dst := some 15, op := Op.move (Operand.tmp 2), type := 3, pos := "ref.go:170", after := #[], guard := none }) (v := ?bbv1) rfl (by kernel_rfl) (by kernel_rfl) (by kernel_rfl) (fun _ _ _ h => h) (Or.inl ⟨by rfl, ?bbh1⟩) (by assumption) ?bbr1
            case bbh1 => ((intro w hSw; (try dsimp only at hSw); go_simp); try with_reducible rfl)
            try simp only [Act.put, List.setIfInBounds_toArray, List.set_cons_zero, List.set_cons_succ]
            refine wpAnyH_take (i := 2) (oi := { dst := some 16, op := Op.binOp BinOp.neq 3 (Operand.tmp 14) (Operand.tmp 15) 3, type := 4, pos := "ref.go:170", after := #[{ on := 0, ground := Ground.data }, { on := 1, ground := Ground.data }], guard := none }) (v := ?bbv2) rfl (by kernel_rfl) (by kernel_rfl) (by kernel_rfl) (fun _ _ _ h => h) (Or.inl ⟨by rfl, ?bbh2⟩) (by assumption) ?bbr2
            case bbh2 => ((intro w hSw; (try dsimp only at hSw); go_simp); try with_reducible rfl)
            try simp only [Act.put, List.setIfInBounds_toArray, List.set_cons_zero, List.set_cons_succ]
            refine wpAnyH_take (i := 3) (oi := { dst := some 17, op := Op.move (Operand.tmp 16), type := 4, pos := "ref.go:170", after := #[{ on := 2, ground := Ground.data }], guard := none }) (v := ?bbv3) rfl (by kernel_rfl) (by kernel_rfl) (by kernel_rfl) (fun _ _ _ h => h) (Or.inl ⟨by rfl, ?bbh3⟩) (by assumption) ?bbr3
            case bbh3 => ((intro w hSw; (try dsimp only at hSw); go_simp); try with_reducible rfl)
            try simp only [Act.put, List.setIfInBounds_toArray, List.set_cons_zero, List.set_cons_succ]
            refine wpAnyH_take (i := 4) (oi := { dst := some 18, op := Op.move (Operand.tmp 1), type := 54, pos := "ref.go:170", after := #[{ on := 3, ground := Ground.guard }], guard := some (3, true) }) (v := ?bbv4) rfl (by kernel_rfl) (by kernel_rfl) (by kernel_rfl) (fun _ _ _ h => h) (Or.inl ⟨by rfl, ?bbh4⟩) (by assumption) ?bbr4
            case bbh4 => ((intro w hSw; (try dsimp only at hSw); go_simp); try with_reducible rfl)
            try simp only [Act.put, List.setIfInBounds_toArray, List.set_cons_zero, List.set_cons_succ]
            refine wpAnyH_take (i := 5) (oi := { dst := some 19, op := Op.move (Operand.tmp 7), type := 3, pos := "ref.go:170", after := #[{ on := 3, ground := Ground.guard }], guard := some (3, true) }) (v := ?bbv5) rfl (by kernel_rfl) (by kernel_rfl) (by kernel_rfl) (fun _ _ _ h => h) (Or.inl ⟨by rfl, ?bbh5⟩) (by assumption) ?bbr5
            case bbh5 => ((intro w hSw; (try dsimp only at hSw); go_simp); try with_reducible rfl)
            try simp only [Act.put, List.setIfInBounds_toArray, List.set_cons_zero, List.set_cons_succ]
            refine wpAnyH_take (i := 6) (oi := { dst := some 20, op := Op.indexAddr 54 (Operand.tmp 18) (Operand.tmp 19), type := 0, pos := "ref.go:170", after := #[{ on := 4, ground := Ground.data }, { on := 5, ground := Ground.data }, { on := 3, ground := Ground.guard }], guard := some (3, true) }) (v := ?bbv6) rfl (by kernel_rfl) (by kernel_rfl) (by kernel_rfl) (fun _ _ _ h => h) (Or.inl ⟨by rfl, ?bbh6⟩) (by assumption) ?bbr6
            case bbh6 => ((intro w hSw; (try dsimp only at hSw); go_simp); try with_reducible rfl)
            try simp only [Act.put, List.setIfInBounds_toArray, List.set_cons_zero, List.set_cons_succ]
            refine wpAnyH_take (i := 7) (oi := { dst := some 21, op := Op.load 4 (Operand.tmp 20), type := 4, pos := "ref.go:170", after := #[{ on := 6, ground := Ground.data }, { on := 3, ground := Ground.guard }], guard := some (3, true) }) (v := ?bbv7) rfl (by kernel_rfl) (by kernel_rfl) (by kernel_rfl) (fun _ _ _ h => h) (Or.inl ⟨by rfl, ?bbh7⟩) (by assumption) ?bbr7
            case bbh7 => ((intro w hSw; (try dsimp only at hSw); go_simp); try with_reducible rfl)
            try simp only [Act.put, List.setIfInBounds_toArray, List.set_cons_zero, List.set_cons_succ]
            refine wpAnyH_take (i := 8) (oi := { dst := some 22, op := Op.unOp UnOp.not 4 (Operand.tmp 21), type := 4, pos := "ref.go:170", after := #[{ on := 7, ground := Ground.data }, { on := 3, ground := Ground.guard }], guard := some (3, true) }) (v := ?bbv8) rfl (by kernel_rfl) (by kernel_rfl) (by kernel_rfl) (fun _ _ _ h => h) (Or.inl ⟨by rfl, ?bbh8⟩) (by assumption) ?bbr8
            case bbh8 => ((intro w hSw; (try dsimp only at hSw); go_simp); try with_reducible rfl)
            try simp only [Act.put, List.setIfInBounds_toArray, List.set_cons_zero, List.set_cons_succ]
            refine wpAnyH_take (i := 9) (oi := { dst := some 23, op := Op.pick (Operand.tmp 17) (Operand.tmp 22) (Operand.const (Value.bool false)), type := 4, pos := "ref.go:170", after := #[{ on := 3, ground := Ground.data }, { on := 8, ground := Ground.data }], guard := none }) (v := ?bbv9) rfl (by kernel_rfl) (by kernel_rfl) (by kernel_rfl) (fun _ _ _ h => h) (Or.inl ⟨by rfl, ?bbh9⟩) (by assumption) ?bbr9
            case bbh9 => ((intro w hSw; (try dsimp only at hSw); go_simp); try with_reducible rfl)
            try simp only [Act.put, List.setIfInBounds_toArray, List.set_cons_zero, List.set_cons_succ]
            refine wpAnyH_take (i := 10) (oi := { dst := some 24, op := Op.move (Operand.tmp 23), type := 4, pos := "ref.go:170", after := #[{ on := 9, ground := Ground.data }, { on := 3, ground := Ground.chain }], guard := none }) (v := ?bbv10) rfl (by kernel_rfl) (by kernel_rfl) (by kernel_rfl) (fun _ _ _ h => h) (Or.inl ⟨by rfl, ?bbh10⟩) (by assumption) ?bbr10
            case bbh10 => ((intro w hSw; (try dsimp only at hSw); go_simp); try with_reducible rfl)
            try simp only [Act.put, List.setIfInBounds_toArray, List.set_cons_zero, List.set_cons_succ]
            refine wpAnyH_take (i := 11) (oi := { dst := some 25, op := Op.move (Operand.tmp 0), type := 22, pos := "ref.go:170", after := #[{ on := 10, ground := Ground.guard }], guard := some (10, true) }) (v := undef) rfl (by kernel_rfl) (by kernel_rfl) (by kernel_rfl) (fun _ _ _ h => h) (Or.inr ⟨by rfl, rfl⟩) (by assumption) ?_
            try simp only [Act.put, List.setIfInBounds_toArray, List.set_cons_zero, List.set_cons_succ]
            refine wpAnyH_take (i := 12) (oi := { dst := some 26, op := Op.move (Operand.tmp 7), type := 3, pos := "ref.go:170", after := #[{ on := 10, ground := Ground.guard }], guard := some (10, true) }) (v := undef) rfl (by kernel_rfl) (by kernel_rfl) (by kernel_rfl) (fun _ _ _ h => h) (Or.inr ⟨by rfl, rfl⟩) (by assumption) ?_
            try simp only [Act.put, List.setIfInBounds_toArray, List.set_cons_zero, List.set_cons_succ]
            refine wpAnyH_take (i := 13) (oi := { dst := some 27, op := Op.indexAddr 22 (Operand.tmp 25) (Operand.tmp 26), type := 0, pos := "ref.go:170", after := #[{ on := 11, ground := Ground.data }, { on := 12, ground := Ground.data }, { on := 10, ground := Ground.guard }], guard := some (10, true) }) (v := undef) rfl (by kernel_rfl) (by kernel_rfl) (by kernel_rfl) (fun _ _ _ h => h) (Or.inr ⟨by rfl, rfl⟩) (by assumption) ?_
            try simp only [Act.put, List.setIfInBounds_toArray, List.set_cons_zero, List.set_cons_succ]
            refine wpAnyH_take (i := 14) (oi := { dst := some 28, op := Op.load 38 (Operand.tmp 27), type := 38, pos := "ref.go:170", after := #[{ on := 13, ground := Ground.data }, { on := 10, ground := Ground.guard }], guard := some (10, true) }) (v := undef) rfl (by kernel_rfl) (by kernel_rfl) (by kernel_rfl) (fun _ _ _ h => h) (Or.inr ⟨by rfl, rfl⟩) (by assumption) ?_
            try simp only [Act.put, List.setIfInBounds_toArray, List.set_cons_zero, List.set_cons_succ]
            refine wpAnyH_take (i := 15) (oi := { dst := some 29, op := Op.move (Operand.tmp 0), type := 22, pos := "ref.go:170", after := #[{ on := 10, ground := Ground.guard }], guard := some (10, true) }) (v := undef) rfl (by kernel_rfl) (by kernel_rfl) (by kernel_rfl) (fun _ _ _ h => h) (Or.inr ⟨by rfl, rfl⟩) (by assumption) ?_
            try simp only [Act.put, List.setIfInBounds_toArray, List.set_cons_zero, List.set_cons_succ]
            refine wpAnyH_take (i := 16) (oi := { dst := some 30, op := Op.move (Operand.tmp 2), type := 3, pos := "ref.go:170", after := #[{ on := 10, ground := Ground.guard }], guard := some (10, true) }) (v := undef) rfl (by kernel_rfl) (by kernel_rfl) (by kernel_rfl) (fun _ _ _ h => h) (Or.inr ⟨by rfl, rfl⟩) (by assumption) ?_
            try simp only [Act.put, List.setIfInBounds_toArray, List.set_cons_zero, List.set_cons_succ]
            refine wpAnyH_take (i := 17) (oi := { dst := some 31, op := Op.indexAddr 22 (Operand.tmp 29) (Operand.tmp 30), type := 0, pos := "ref.go:170", after := #[{ on := 15, ground := Ground.data }, { on := 16, ground := Ground.data }, { on := 10, ground := Ground.guard }], guard := some (10, true) }) (v := undef) rfl (by kernel_rfl) (by kernel_rfl) (by kernel_rfl) (fun _ _ _ h => h) (Or.inr ⟨by rfl, rfl⟩) (by assumption) ?_
            try simp only [Act.put, List.setIfInBounds_toArray, List.set_cons_zero, List.set_cons_succ]
            refine wpAnyH_take (i := 18) (oi := { dst := some 32, op := Op.load 38 (Operand.tmp 31), type := 38, pos := "ref.go:170", after := #[{ on := 17, ground := Ground.data }, { on := 10, ground := Ground.guard }], guard := some (10, true) }) (v := undef) rfl (by kernel_rfl) (by kernel_rfl) (by kernel_rfl) (fun _ _ _ h => h) (Or.inr ⟨by rfl, rfl⟩) (by assumption) ?_
            try simp only [Act.put, List.setIfInBounds_toArray, List.set_cons_zero, List.set_cons_succ]
            refine wpAnyH_take (i := 19) (oi := { dst := some 33, op := Op.call { callee := Callee.value (Operand.func 24), args := #[Operand.tmp 28, Operand.tmp 32], argTypes := #[38, 38] }, type := 4, pos := "ref.go:170", after := #[{ on := 14, ground := Ground.data }, { on := 18, ground := Ground.data }, { on := 10, ground := Ground.chain }, { on := 10, ground := Ground.guard }], guard := some (10, true) }) (v := undef) rfl (by kernel_rfl) (by kernel_rfl) (by kernel_rfl) (fun _ _ _ h => h) (Or.inr ⟨by rfl, rfl⟩) (by assumption) ?_
            try simp only [Act.put, List.setIfInBounds_toArray, List.set_cons_zero, List.set_cons_succ]
            refine wpAnyH_take (i := 20) (oi := { dst := some 34, op := Op.pick (Operand.tmp 24) (Operand.tmp 33) (Operand.const (Value.bool false)), type := 4, pos := "ref.go:170", after := #[{ on := 10, ground := Ground.data }, { on := 19, ground := Ground.data }], guard := none }) (v := ?bbv20) rfl (by kernel_rfl) (by kernel_rfl) (by kernel_rfl) (fun _ _ _ h => h) (Or.inl ⟨by rfl, ?bbh20⟩) (by assumption) ?bbr20
            case bbh20 => ((intro w hSw; (try dsimp only at hSw); go_simp); try with_reducible rfl)
            try simp only [Act.put, List.setIfInBounds_toArray, List.set_cons_zero, List.set_cons_succ]
            refine wpAnyH_done (by kernel_rfl) ?_ _
            go_wp2_with fail
            go_meet
            exact ⟨by rw [HVV.out], by assumption⟩
          | false =>
            have HVV : Hid (V = aheadC (cAt l k) (cAt l i)) := by unfold Hid; rw [HV.out]; simp [hki]
            clear hki hci
            refine wp_region_held_drew (S := fun w' => Below wr.heap.size wr w') (by kernel_rfl) ((Below.refl _ _).drew) (fun hHeld => ?_)
            refine wpAnyH_take (i := 0) (oi := { dst := some 14, op := Op.move (Operand.tmp 7), type := 3, pos := "ref.go:170", after := #[], guard := none }) (v := ?bcv0) rfl (by kernel_rfl) (by kernel_rfl) (by kernel_rfl) (fun _ _ _ h => h) (Or.inl ⟨by rfl, ?bch0⟩) (by assumption) ?bcr0
            case bch0 => ((intro w hSw; (try dsimp only at hSw); go_simp); try with_reducible rfl)
            try simp only [Act.put, List.setIfInBounds_toArray, List.set_cons_zero, List.set_cons_succ]
            refine wpAnyH_take (i := 1) (oi := { dst := some 15, op := Op.move (Operand.tmp 2), type := 3, pos := "ref.go:170", after := #[], guard := none }) (v := ?bcv1) rfl (by kernel_rfl) (by kernel_rfl) (by kernel_rfl) (fun _ _ _ h => h) (Or.inl ⟨by rfl, ?bch1⟩) (by assumption) ?bcr1
            case bch1 => ((intro w hSw; (try dsimp only at hSw); go_simp); try with_reducible rfl)
            try simp only [Act.put, List.setIfInBounds_toArray, List.set_cons_zero, List.set_cons_succ]
            refine wpAnyH_take (i := 2) (oi := { dst := some 16, op := Op.binOp BinOp.neq 3 (Operand.tmp 14) (Operand.tmp 15) 3, type := 4, pos := "ref.go:170", after := #[{ on := 0, ground := Ground.data }, { on := 1, ground := Ground.data }], guard := none }) (v := ?bcv2) rfl (by kernel_rfl) (by kernel_rfl) (by kernel_rfl) (fun _ _ _ h => h) (Or.inl ⟨by rfl, ?bch2⟩) (by assumption) ?bcr2
            case bch2 => ((intro w hSw; (try dsimp only at hSw); go_simp); try with_reducible rfl)
            try simp only [Act.put, List.setIfInBounds_toArray, List.set_cons_zero, List.set_cons_succ]
            refine wpAnyH_take (i := 3) (oi := { dst := some 17, op := Op.move (Operand.tmp 16), type := 4, pos := "ref.go:170", after := #[{ on := 2, ground := Ground.data }], guard := none }) (v := ?bcv3) rfl (by kernel_rfl) (by kernel_rfl) (by kernel_rfl) (fun _ _ _ h => h) (Or.inl ⟨by rfl, ?bch3⟩) (by assumption) ?bcr3
            case bch3 => ((intro w hSw; (try dsimp only at hSw); go_simp); try with_reducible rfl)
            try simp only [Act.put, List.setIfInBounds_toArray, List.set_cons_zero, List.set_cons_succ]
            refine wpAnyH_take (i := 4) (oi := { dst := some 18, op := Op.move (Operand.tmp 1), type := 54, pos := "ref.go:170", after := #[{ on := 3, ground := Ground.guard }], guard := some (3, true) }) (v := ?bcv4) rfl (by kernel_rfl) (by kernel_rfl) (by kernel_rfl) (fun _ _ _ h => h) (Or.inl ⟨by rfl, ?bch4⟩) (by assumption) ?bcr4
            case bch4 => ((intro w hSw; (try dsimp only at hSw); go_simp); try with_reducible rfl)
            try simp only [Act.put, List.setIfInBounds_toArray, List.set_cons_zero, List.set_cons_succ]
            refine wpAnyH_take (i := 5) (oi := { dst := some 19, op := Op.move (Operand.tmp 7), type := 3, pos := "ref.go:170", after := #[{ on := 3, ground := Ground.guard }], guard := some (3, true) }) (v := ?bcv5) rfl (by kernel_rfl) (by kernel_rfl) (by kernel_rfl) (fun _ _ _ h => h) (Or.inl ⟨by rfl, ?bch5⟩) (by assumption) ?bcr5
            case bch5 => ((intro w hSw; (try dsimp only at hSw); go_simp); try with_reducible rfl)
            try simp only [Act.put, List.setIfInBounds_toArray, List.set_cons_zero, List.set_cons_succ]
            refine wpAnyH_take (i := 6) (oi := { dst := some 20, op := Op.indexAddr 54 (Operand.tmp 18) (Operand.tmp 19), type := 0, pos := "ref.go:170", after := #[{ on := 4, ground := Ground.data }, { on := 5, ground := Ground.data }, { on := 3, ground := Ground.guard }], guard := some (3, true) }) (v := ?bcv6) rfl (by kernel_rfl) (by kernel_rfl) (by kernel_rfl) (fun _ _ _ h => h) (Or.inl ⟨by rfl, ?bch6⟩) (by assumption) ?bcr6
            case bch6 => ((intro w hSw; (try dsimp only at hSw); go_simp); try with_reducible rfl)
            try simp only [Act.put, List.setIfInBounds_toArray, List.set_cons_zero, List.set_cons_succ]
            refine wpAnyH_take (i := 7) (oi := { dst := some 21, op := Op.load 4 (Operand.tmp 20), type := 4, pos := "ref.go:170", after := #[{ on := 6, ground := Ground.data }, { on := 3, ground := Ground.guard }], guard := some (3, true) }) (v := ?bcv7) rfl (by kernel_rfl) (by kernel_rfl) (by kernel_rfl) (fun _ _ _ h => h) (Or.inl ⟨by rfl, ?bch7⟩) (by assumption) ?bcr7
            case bch7 => ((intro w hSw; (try dsimp only at hSw); go_simp); try with_reducible rfl)
            try simp only [Act.put, List.setIfInBounds_toArray, List.set_cons_zero, List.set_cons_succ]
            refine wpAnyH_take (i := 8) (oi := { dst := some 22, op := Op.unOp UnOp.not 4 (Operand.tmp 21), type := 4, pos := "ref.go:170", after := #[{ on := 7, ground := Ground.data }, { on := 3, ground := Ground.guard }], guard := some (3, true) }) (v := ?bcv8) rfl (by kernel_rfl) (by kernel_rfl) (by kernel_rfl) (fun _ _ _ h => h) (Or.inl ⟨by rfl, ?bch8⟩) (by assumption) ?bcr8
            case bch8 => ((intro w hSw; (try dsimp only at hSw); go_simp); try with_reducible rfl)
            try simp only [Act.put, List.setIfInBounds_toArray, List.set_cons_zero, List.set_cons_succ]
            refine wpAnyH_take (i := 9) (oi := { dst := some 23, op := Op.pick (Operand.tmp 17) (Operand.tmp 22) (Operand.const (Value.bool false)), type := 4, pos := "ref.go:170", after := #[{ on := 3, ground := Ground.data }, { on := 8, ground := Ground.data }], guard := none }) (v := ?bcv9) rfl (by kernel_rfl) (by kernel_rfl) (by kernel_rfl) (fun _ _ _ h => h) (Or.inl ⟨by rfl, ?bch9⟩) (by assumption) ?bcr9
            case bch9 => ((intro w hSw; (try dsimp only at hSw); go_simp); try with_reducible rfl)
            try simp only [Act.put, List.setIfInBounds_toArray, List.set_cons_zero, List.set_cons_succ]
            refine wpAnyH_take (i := 10) (oi := { dst := some 24, op := Op.move (Operand.tmp 23), type := 4, pos := "ref.go:170", after := #[{ on := 9, ground := Ground.data }, { on := 3, ground := Ground.chain }], guard := none }) (v := ?bcv10) rfl (by kernel_rfl) (by kernel_rfl) (by kernel_rfl) (fun _ _ _ h => h) (Or.inl ⟨by rfl, ?bch10⟩) (by assumption) ?bcr10
            case bch10 => ((intro w hSw; (try dsimp only at hSw); go_simp); try with_reducible rfl)
            try simp only [Act.put, List.setIfInBounds_toArray, List.set_cons_zero, List.set_cons_succ]
            refine wpAnyH_take (i := 11) (oi := { dst := some 25, op := Op.move (Operand.tmp 0), type := 22, pos := "ref.go:170", after := #[{ on := 10, ground := Ground.guard }], guard := some (10, true) }) (v := ?bcv11) rfl (by kernel_rfl) (by kernel_rfl) (by kernel_rfl) (fun _ _ _ h => h) (Or.inl ⟨by rfl, ?bch11⟩) (by assumption) ?bcr11
            case bch11 => ((intro w hSw; (try dsimp only at hSw); go_simp); try with_reducible rfl)
            try simp only [Act.put, List.setIfInBounds_toArray, List.set_cons_zero, List.set_cons_succ]
            refine wpAnyH_take (i := 12) (oi := { dst := some 26, op := Op.move (Operand.tmp 7), type := 3, pos := "ref.go:170", after := #[{ on := 10, ground := Ground.guard }], guard := some (10, true) }) (v := ?bcv12) rfl (by kernel_rfl) (by kernel_rfl) (by kernel_rfl) (fun _ _ _ h => h) (Or.inl ⟨by rfl, ?bch12⟩) (by assumption) ?bcr12
            case bch12 => ((intro w hSw; (try dsimp only at hSw); go_simp); try with_reducible rfl)
            try simp only [Act.put, List.setIfInBounds_toArray, List.set_cons_zero, List.set_cons_succ]
            refine wpAnyH_take (i := 13) (oi := { dst := some 27, op := Op.indexAddr 22 (Operand.tmp 25) (Operand.tmp 26), type := 0, pos := "ref.go:170", after := #[{ on := 11, ground := Ground.data }, { on := 12, ground := Ground.data }, { on := 10, ground := Ground.guard }], guard := some (10, true) }) (v := ?bcv13) rfl (by kernel_rfl) (by kernel_rfl) (by kernel_rfl) (fun _ _ _ h => h) (Or.inl ⟨by rfl, ?bch13⟩) (by assumption) ?bcr13
            case bch13 => ((intro w hSw; (try dsimp only at hSw); go_simp); try with_reducible rfl)
            try simp only [Act.put, List.setIfInBounds_toArray, List.set_cons_zero, List.set_cons_succ]
            refine wpAnyH_take (i := 14) (oi := { dst := some 28, op := Op.load 38 (Operand.tmp 27), type := 38, pos := "ref.go:170", after := #[{ on := 13, ground := Ground.data }, { on := 10, ground := Ground.guard }], guard := some (10, true) }) (v := ?bcv14) rfl (by kernel_rfl) (by kernel_rfl) (by kernel_rfl) (fun _ _ _ h => h) (Or.inl ⟨by rfl, ?bch14⟩) (by assumption) ?bcr14
            case bch14 => ((intro w hSw; (try dsimp only at hSw); go_simp); try with_reducible rfl)
            try simp only [Act.put, List.setIfInBounds_toArray, List.set_cons_zero, List.set_cons_succ]
            refine wpAnyH_take (i := 15) (oi := { dst := some 29, op := Op.move (Operand.tmp 0), type := 22, pos := "ref.go:170", after := #[{ on := 10, ground := Ground.guard }], guard := some (10, true) }) (v := ?bcv15) rfl (by kernel_rfl) (by kernel_rfl) (by kernel_rfl) (fun _ _ _ h => h) (Or.inl ⟨by rfl, ?bch15⟩) (by assumption) ?bcr15
            case bch15 => ((intro w hSw; (try dsimp only at hSw); go_simp); try with_reducible rfl)
            try simp only [Act.put, List.setIfInBounds_toArray, List.set_cons_zero, List.set_cons_succ]
            refine wpAnyH_take (i := 16) (oi := { dst := some 30, op := Op.move (Operand.tmp 2), type := 3, pos := "ref.go:170", after := #[{ on := 10, ground := Ground.guard }], guard := some (10, true) }) (v := ?bcv16) rfl (by kernel_rfl) (by kernel_rfl) (by kernel_rfl) (fun _ _ _ h => h) (Or.inl ⟨by rfl, ?bch16⟩) (by assumption) ?bcr16
            case bch16 => ((intro w hSw; (try dsimp only at hSw); go_simp); try with_reducible rfl)
            try simp only [Act.put, List.setIfInBounds_toArray, List.set_cons_zero, List.set_cons_succ]
            refine wpAnyH_take (i := 17) (oi := { dst := some 31, op := Op.indexAddr 22 (Operand.tmp 29) (Operand.tmp 30), type := 0, pos := "ref.go:170", after := #[{ on := 15, ground := Ground.data }, { on := 16, ground := Ground.data }, { on := 10, ground := Ground.guard }], guard := some (10, true) }) (v := ?bcv17) rfl (by kernel_rfl) (by kernel_rfl) (by kernel_rfl) (fun _ _ _ h => h) (Or.inl ⟨by rfl, ?bch17⟩) (by assumption) ?bcr17
            case bch17 => ((intro w hSw; (try dsimp only at hSw); go_simp); try with_reducible rfl)
            try simp only [Act.put, List.setIfInBounds_toArray, List.set_cons_zero, List.set_cons_succ]
            refine wpAnyH_take (i := 18) (oi := { dst := some 32, op := Op.load 38 (Operand.tmp 31), type := 38, pos := "ref.go:170", after := #[{ on := 17, ground := Ground.data }, { on := 10, ground := Ground.guard }], guard := some (10, true) }) (v := ?bcv18) rfl (by kernel_rfl) (by kernel_rfl) (by kernel_rfl) (fun _ _ _ h => h) (Or.inl ⟨by rfl, ?bch18⟩) (by assumption) ?bcr18
            case bch18 => ((intro w hSw; (try dsimp only at hSw); go_simp); try with_reducible rfl)
            try simp only [Act.put, List.setIfInBounds_toArray, List.set_cons_zero, List.set_cons_succ]
            refine wpAnyH_ready (rs := [19]) (by kernel_rfl) (by simp) ?_
            refine AllReadyH.cons (o := { dst := some 33, op := Op.call { callee := Callee.value (Operand.func 24), args := #[Operand.tmp 28, Operand.tmp 32], argTypes := #[38, 38] }, type := 4, pos := "ref.go:170", after := #[{ on := 14, ground := Ground.data }, { on := 18, ground := Ground.data }, { on := 10, ground := Ground.chain }, { on := 10, ground := Ground.guard }], guard := some (10, true) }) rfl (fun K hK => ?_) AllReadyH.nil
            go_simp
            (go_at_call 24; with_reducible refine (HA.out _).mono ?_; rintro e w' ⟨rfl, hbq⟩; have hq9 : Below wr.heap.size wr w' := below_tr hbq (by assumption); clear hbq)
            refine hK.out _ _ (by assumption) (fun hHeld => ?_)
            clear hK K
            try simp only [Act.put, List.setIfInBounds_toArray, List.set_cons_zero, List.set_cons_succ]
            refine wpAnyH_take (i := 20) (oi := { dst := some 34, op := Op.pick (Operand.tmp 24) (Operand.tmp 33) (Operand.const (Value.bool false)), type := 4, pos := "ref.go:170", after := #[{ on := 10, ground := Ground.data }, { on := 19, ground := Ground.data }], guard := none }) (v := ?bcv20) rfl (by kernel_rfl) (by kernel_rfl) (by kernel_rfl) (fun _ _ _ h => h) (Or.inl ⟨by rfl, ?bch20⟩) (by assumption) ?bcr20
            case bch20 => ((intro w hSw; (try dsimp only at hSw); go_simp); try with_reducible rfl)
            try simp only [Act.put, List.setIfInBounds_toArray, List.set_cons_zero, List.set_cons_succ]
            refine wpAnyH_done (by kernel_rfl) ?_ _
            go_wp2_with fail
            go_meet
            exact ⟨by rw [HVV.out], by assumption⟩
      case rest =>
        obtain ⟨rfl, hbc⟩ := hcut
        have hbw := below_tr hbc HB.out
        clear a0 a1 a2 a3 a4 a5 a6 a7 d0 d1 d2 d3 d4 d5 d6 d7 c0 HV
        cases V with
        | true =>
          have HVV := hid (HY.out rfl)
          go_wp2
          go_ret
          exact ⟨ret_bool HVV.out.symm, hbw⟩
        | false =>
          have HNX := hid (HN.out rfl)
          go_wp2
          exact ⟨⟨k + 1, by omega, by go_num, HNX.out, hbw⟩, by simp [intOf]; omega⟩
    · have hke : k = l.length := by omega
      subst hke
      have HVV := hid (beh_no HBT.out)
      go_wp2
      go_ret
      exact ⟨ret_bool HVV.out.symm, HB.out⟩
end Go.Proofs.Ytdkknnmgdghioaa
namespace Go.Proofs.Ytdkknnmgdghioaa
open Go.RowKit

def endB (l : List Cl) (o : List Nat) (i : Nat) : Bool := o.contains i || decide ((cAt l i).to < 0)
def endTo (l : List Cl) (o : List Nat) (k : Nat) : Bool := (List.range k).all (endB l o)
theorem endTo_succ (l : List Cl) (o : List Nat) (k : Nat) : endTo l o (k + 1) = (endTo l o k && endB l o k) := by unfold endTo; rw [List.range_succ, List.all_append]; simp
theorem endTo_all (l : List Cl) (o : List Nat) : endTo l o l.length = endedIn l o := rfl
def goB (l : List Cl) (f : Nat) (o : List Nat) (i : Nat) : Bool := !o.contains i && !behindIn l o i && tryN l f (o ++ [i])
theorem try_yes {l : List Cl} {f : Nat} {o : List Nat} {i : Nat} (hi : i < l.length) (h1 : stepsF (fun _ => none) (o.map (cAt l)) = true) (h : goB l f o i = true) : tryN l (f + 1) o = true := by
  show (_ && (_ || _)) = true
  rw [h1, Bool.true_and, Bool.or_eq_true]
  exact .inr (List.any_eq_true.2 ⟨i, List.mem_range.2 hi, h⟩)
theorem try_no {l : List Cl} {f : Nat} {o : List Nat} (h1 : endedIn l o = false) (h : ∀ i, i < l.length → goB l f o i = false) : tryN l (f + 1) o = false := by
  show (_ && (_ || _)) = false
  rw [h1, Bool.false_or, Bool.and_eq_false_iff]
  refine .inr (List.any_eq_false.2 fun i hi => ?_)
  have := h i (List.mem_range.1 hi)
  unfold goB at this
  simpa using this
theorem try_end {l : List Cl} {f : Nat} {o : List Nat} (h1 : stepsF (fun _ => none) (o.map (cAt l)) = true) (h : endedIn l o = true) : tryN l (f + 1) o = true := by
  show (_ && (_ || _)) = true
  rw [h1, h]; rfl
theorem try_bad {l : List Cl} {f : Nat} {o : List Nat} (h1 : stepsF (fun _ => none) (o.map (cAt l)) = false) : tryN l (f + 1) o = false := by
  show (_ && (_ || _)) = false
  rw [h1]; rfl
def goNo (l : List Cl) (f : Nat) (o : List Nat) (k : Nat) : Prop := ∀ i, i < k → goB l f o i = false
theorem goNo_succ {l : List Cl} {f : Nat} {o : List Nat} {k : Nat} (h : goNo l f o k) (h1 : goB l f o k = false) : goNo l f o (k + 1) := fun j hj => by
  by_cases e : j = k
  · subst e; exact h1
  · exact h j (by omega)
/-- try's contract, f deep. -/
def TryC (l : List Cl) (p : Option Addr) (c f : Nat) : Prop := ∀ (o : List Nat) (q : Option Addr) (d : Nat) (u : Option Addr) (e : Nat) (w : World), o.Nodup → (∀ i ∈ o, i < l.length) → l.length < f + o.length → (q = none → d = 0) → (u = none → e = 0) → Row w p (l.flatMap Cl.cells) → Row w q (o.map natV) → Row w u ((usedOf l o).map Value.bool) →
  Calls Try.prog 27 #[.slice p l.length c, .slice q o.length d, .slice u l.length e] w fun e w' => e = .returned (.bool (tryN l f o)) ∧ Below w.heap.size w w'
theorem bool_ones {l : List Bool} : ∀ u ∈ l.map Value.bool, u.oneCell' = true := fun u hu => by
  obtain ⟨i, _, rfl⟩ := List.mem_map.1 hu
  rfl
set_option maxRecDepth 20000 in
set_option maxHeartbeats 8000000 in
theorem try_step (l : List Cl) (p : Option Addr) (c f : Nat) (hl : l.length ≤ 1000000) (h1 : ∀ i, i < l.length → OneC (cAt l i)) (ih : TryC l p c f) : TryC l p c (f + 1) := by
  intro o q d u e w hnd hlt hf hq hu hrow ho hus
  have hol : o.length ≤ 1000000 := Nat.le_trans (nodup_len _ o hnd hlt) hl
  have HST := hid (steps_any l p c o q d w hl hol hrow ho hlt h1)
  rw [stp_steps] at HST
  have HR := hid hrow
  have HO := hid ho
  have HU := hid hus
  have HIH := hid ih
  unfold TryC at HIH
  have HND := hid hnd
  have HLT := hid hlt
  have HQ := hid hq
  have HUN := hid hu
  have HY := hid (fun (h : stepsF (fun _ => none) (o.map (cAt l)) = false) => try_bad (f := f) h)
  have HE := hid (fun (h : stepsF (fun _ => none) (o.map (cAt l)) = true) => try_end (f := f) h)
  have HG := hid (fun i (hi : i < l.length) (h : stepsF (fun _ => none) (o.map (cAt l)) = true) => try_yes (f := f) hi h)
  have HNO := hid (fun h1 h => try_no (l := l) (f := f) (o := o) h1 h)
  clear hnd hlt hq hu hrow ho hus ih
  generalize tryN l (f + 1) o = T at *
  cases hs : stepsF (fun _ => none) (o.map (cAt l)) with
  | false =>
    rw [hs] at HST
    have HV := hid (HY.out hs)
    clear hs HE HG
    go_enter Try.func27, Try.ntmps27
    go_wp2_with (go_at_call 26; (with_reducible refine HST.out.mono ?_); rintro e w1 ⟨rfl, hb1⟩)
    go_ret
    exact ⟨ret_bool HV.out.symm, hb1⟩
  | true =>
    rw [hs] at HST
    have HE := hid (HE.out hs)
    have HG := hid (fun i hi => HG.out i hi hs)
    clear hs HY
    go_enter Try.func27, Try.ntmps27
    go_wp2_with (go_at_call 26; (with_reducible refine HST.out.mono ?_); rintro e w1 ⟨rfl, hb1⟩; have HB1 := hid hb1; clear hb1)
    have hz1 := HB1.out.size
    go_loopw [7, 8] (fun s i wr => ∃ k : Nat, k ≤ l.length ∧ i = .int .i64 k ∧ s = .bool (endTo l o k) ∧ wr = w1) (fun _ i _ => l.length - (intOf i).toNat)
    case atStart => exact ⟨0, Nat.zero_le _, rfl, rfl, rfl⟩
    case round =>
      obtain ⟨k, hk, rfl, rfl, rfl⟩ := hrel
      by_cases hlt : k < l.length
      · obtain ⟨bl, ol, rfl, hbl, -⟩ := (HR.out.below HB1.out).at (by have := flat_len Cl.cells 8 (fun _ => rfl) l; omega)
        have d5 := (cl_cat (HR.out.below HB1.out) k hlt).2.2.2.2.2.1
        have hub := HU.out.below HB1.out
        obtain ⟨bu, ou, rfl, hbu, -⟩ := hub.at (by rw [List.length_map, used_len]; omega)
        have c0 := bool_at hub k (by rw [used_len]; exact hlt)
        rw [used_get hlt] at c0
        have HT := hid (endTo_succ l o k)
        unfold endB at HT
        clear hub
        generalize o.contains k = uk at c0 HT
        generalize (cAt l k).to = te at d5 HT
        have hx1 : decide ((k : Int) < 0) = false := decide_eq_false (by omega)
        cases hen : endTo l o k with
        | false =>
          rw [hen, Bool.false_and] at HT
          clear hen
          go_wp2
          exact ⟨⟨k + 1, by omega, by go_num, by rw [HT.out], trivial⟩, by simp [intOf]; omega⟩
        | true =>
          rw [hen, Bool.true_and] at HT
          clear hen
          cases uk with
          | true =>
            rw [Bool.true_or] at HT
            go_wp2
            exact ⟨⟨k + 1, by omega, by go_num, by rw [HT.out], trivial⟩, by simp [intOf]; omega⟩
          | false =>
            rw [Bool.false_or] at HT
            by_cases ht : te < 0
            · have ht2 : decide (te < 0) = true := decide_eq_true ht
              rw [ht2] at HT
              go_wp2
              exact ⟨⟨k + 1, by omega, by go_num, by rw [HT.out], trivial⟩, by simp [intOf]; omega⟩
            · have ht2 : decide (te < 0) = false := decide_eq_false ht
              rw [ht2] at HT
              go_wp2
              exact ⟨⟨k + 1, by omega, by go_num, by rw [HT.out], trivial⟩, by simp [intOf]; omega⟩
      · have hke : k = l.length := by omega
        subst hke
        have HEA := hid (endTo_all l o)
        cases hen : endTo l o l.length with
        | true =>
          have HV := hid (HE.out (HEA.out.symm.trans hen))
          clear hen
          go_wp2
          go_ret
          exact ⟨ret_bool HV.out.symm, HB1.out⟩
        | false =>
          have HNN := hid (fun h => HNO.out (HEA.out.symm.trans hen) h)
          clear hen
          go_wp2
          go_loopw [9] (fun i wr2 => ∃ k : Nat, k ≤ l.length ∧ i = .int .i64 k ∧ goNo l f o k ∧ Below w.heap.size w wr2) (fun i _ => l.length - (intOf i).toNat)
          case atStart => exact ⟨0, Nat.zero_le _, rfl, fun j hj => by omega, HB1.out⟩
          case round =>
            obtain ⟨i, hi, rfl, hgo, hb⟩ := hrel
            have HGO := hid hgo
            have HB := hid hb
            clear hgo hb
            by_cases hlt : i < l.length
            · have hub := HU.out.below HB.out
              obtain ⟨bu, ou, rfl, hbu, -⟩ := hub.at (by rw [List.length_map, used_len]; omega)
              have c0 := bool_at hub i (by rw [used_len]; exact hlt)
              rw [used_get hlt] at c0
              have HBH := hid (behind_any l p c o (some ⟨bu, ou, none⟩) e i wr hl hlt (HR.out.below HB.out) hub)
              have HGI := hid (fun h => HG.out i hlt h)
              have HNX := hid (fun h => goNo_succ HGO.out (k := i) h)
              have hnin : Hid (o.contains i = false → i ∉ o) := fun h => by simpa using h
              unfold goB at HGI HNX
              clear hub
              generalize o.contains i = ui at c0 HGI HNX hnin
              have hx1 : decide ((i : Int) < 0) = false := decide_eq_false (by omega)
              cases ui with
              | true =>
                have HN2 := hid (HNX.out rfl)
                go_wp2
                exact ⟨⟨i + 1, by omega, by go_num, HN2.out, HB.out⟩, by simp [intOf]; omega⟩
              | false =>
                rw [Bool.not_false, Bool.true_and] at HGI HNX
                have HNI := hid (hnin.out rfl)
                cases hbe : behindIn l o i with
                | true =>
                  rw [hbe] at HBH HNX
                  have HN2 := hid (HNX.out rfl)
                  clear hbe
                  go_wp2_with (go_at_call 44; (with_reducible refine HBH.out.mono ?_); rintro e w5 ⟨rfl, hb5⟩)
                  exact ⟨⟨i + 1, by omega, by go_num, HN2.out, below_tr hb5 HB.out⟩, by simp [intOf]; omega⟩
                | false =>
                  rw [hbe, Bool.not_false, Bool.true_and] at HGI HNX
                  rw [hbe] at HBH
                  clear hbe
                  go_wp2_with (first
                    | (go_at_call 44; (with_reducible refine HBH.out.mono ?_); rintro e w5 ⟨rfl, hb5⟩; have HB5 := hid (below_tr hb5 HB.out); have hz5 := (below_tr hb5 HB.out).size; clear hb5)
                    | ((with_reducible show wpList _ _ _ (⟨some 56, _, _, _, _, _⟩ :: _) _ _); go_loud (refine wpList_app EInt rfl _ _ rfl w.heap.size (.slice none 0 0) 0 [] rfl ⟨rfl, .inl ⟨rfl, rfl⟩⟩ q o.length d (o.map natV) rfl (by simp) HQ.out (HO.out.below HB5.out) nat_ones (by unfold maxLen; omega) (by omega) (by omega) ?_); intro v6 w6 ho6 hg6 hs6; rw [Nat.zero_add, List.nil_append] at ho6; have HO6 := hid ho6; have HB6 := hid (HB5.out.grown hg6 hz5 (by simp [Value.ownBlock])); have hz6 := HB6.out.size; obtain ⟨p6, c6, rfl, -⟩ := own_shape ho6; clear ho6 hg6 hs6)
                    | ((with_reducible show wpList _ _ _ (⟨some 59, _, _, _, _, _⟩ :: _) _ _); go_loud (refine wpList_app EInt rfl _ _ rfl w.heap.size _ _ _ rfl (HO6.out.alloc _) _ 1 1 [natV i] rfl rfl (by simp) (row_newAt _ _ _ _ (by simp)) (by simp [natV, Value.oneCell']) (by unfold maxLen; omega) (by omega) (by simp <;> omega) ?_); intro v7 w7 ho7 hg7 hs7; have HO7 := hid ho7; have HB7 := hid ((HB6.out.alloc hz6 _).grown hg7 (by simp <;> omega) (fun g e => own_ge HO6.out g e)); have hz7 := HB7.out.size; obtain ⟨p7, c7, rfl, -⟩ := own_shape ho7; clear ho7 hg7 hs7)
                    | ((with_reducible show wpList _ _ _ (⟨some 61, _, _, _, _, _⟩ :: _) _ _); go_loud (refine wpList_app EBool rfl _ _ rfl w7.heap.size (.slice none 0 0) 0 [] rfl ⟨rfl, .inl ⟨rfl, rfl⟩⟩ (some ⟨bu, ou, none⟩) l.length e ((usedOf l o).map Value.bool) rfl (by simp [used_len]) (by simp) (HU.out.below HB7.out) bool_ones (by unfold maxLen; omega) (by omega) (Nat.le_refl _) ?_); intro v8 w8 ho8 hg8 hs8; rw [Nat.zero_add, List.nil_append] at ho8; have HO8 := hid ho8; have HG8 := hid hg8; have HB8 := hid (HB7.out.grown hg8 hz7 (by simp [Value.ownBlock])); have hz8 := hg8.size; obtain ⟨g8, c8, rfl, hg8a, hg8b, -⟩ := own_block ho8 (by omega); obtain ⟨y0, y1⟩ := own_cell ho8 i (by simp [used_len]; exact hlt); have y2 : ∃ x, w8.cell? ⟨g8, i, none⟩ = some x := ⟨_, y0⟩; obtain ⟨x8, y3⟩ := y2; clear ho8 hg8 hs8 y0))
                  have hbw : Below w.heap.size w (w8.setCell ⟨g8, i, none⟩ (.bool true)) := HB8.out.setCell (show w.heap.size ≤ g8 by omega) _
                  have hlen : (o ++ [i]).length = o.length + 1 := by simp
                  have how7 : OwnI (w8.setCell ⟨g8, i, none⟩ (.bool true)) w.heap.size (.slice p7 (o.length + 1) c7) (o ++ [i]) := by
                    have h1 := own_kept HO7.out HG8.out (Apart.nil _).symm
                    exact own_cast (own_setO h1 _ _ (fun g e => by have := own_lt HO7.out g e; simp; omega)) (by simp) (by simp)
                  have hou8 := own_set HO8.out i (.bool true)
                  rw [used_set hlt] at hou8
                  have hcall := HIH.out (o ++ [i]) p7 c7 (some ⟨g8, 0, none⟩) c8 _ (List.nodup_append.2 ⟨HND.out, List.nodup_cons.2 ⟨by simp, List.nodup_nil⟩, fun a ha b hb e => HNI.out (by rw [List.mem_singleton.1 hb] at e; rw [← e]; exact ha)⟩)
                    (fun j hj => by
                      rcases List.mem_append.1 hj with h | h
                      · exact HLT.out j h
                      · rw [List.mem_singleton.1 h]; exact hlt) (by rw [hlen]; omega) (own_nilcap how7) (by simp) (HR.out.below hbw) (own_slice_row how7) (own_slice_row hou8)
                  rw [hlen] at hcall
                  have HBW := hid hbw
                  have HCL := hid hcall
                  clear hbw hlen how7 hou8 hcall y1 y3
                  cases htr : tryN l f (o ++ [i]) with
                  | true =>
                    have HV := hid (HGI.out htr)
                    rw [htr] at HCL
                    clear htr
                    (with_reducible refine HCL.out.mono ?_)
                    rintro e w9 ⟨rfl, hb9⟩
                    go_wp2
                    go_ret
                    exact ⟨ret_bool HV.out.symm, below_tr hb9 HBW.out⟩
                  | false =>
                    have HN2 := hid (HNX.out htr)
                    rw [htr] at HCL
                    clear htr
                    (with_reducible refine HCL.out.mono ?_)
                    rintro e w9 ⟨rfl, hb9⟩
                    go_wp2
                    exact ⟨⟨i + 1, by omega, by go_num, HN2.out, below_tr hb9 HBW.out⟩, by simp [intOf]; omega⟩
            · have hie : i = l.length := by omega
              subst hie
              have HV := hid (HNN.out HGO.out)
              go_wp2
              go_ret
              exact ⟨ret_bool HV.out.symm, HB.out⟩
theorem try_any (l : List Cl) (p : Option Addr) (c : Nat) (hl : l.length ≤ 1000000) (h1 : ∀ i, i < l.length → OneC (cAt l i)) : ∀ f, TryC l p c f
  | 0 => fun o q d u e w hnd hlt hf _ _ _ _ _ => by have := nodup_len _ o hnd hlt; omega
  | f + 1 => try_step l p c f hl h1 (try_any l p c hl h1 f)
open Classical in
noncomputable def linB (l : List Cl) : Bool := decide (Lin l)
theorem linB_iff {l : List Cl} : linB l = true ↔ Lin l := by unfold linB; simp
theorem wpList_mkfull_w {P : Program} {w : World} {t e : TypeId} {size bytes : Nat} {z : Value} {ops : Array Oper} {rest : List Oper} {o : Oper} {a : Act} {Q : Exit → Act → World → Prop} (E : Elem P t e size bytes z) (hw : Region.wanted o (yielded ops a.tmps) = true) (l c : Operand) (ho : o.op = .makeSlice t l c) (base : Nat) (kl kc : IntKind) (L C : Int) (n : Nat) (hl : a.eval l = .int kl L) (hc : a.eval c = .int kc C) (hL : L = (n : Int)) (hC : C = (n : Int))
    (hb : bytes * n ≤ 281474976710656) (hm : n ≤ maxLen) (hbase : base ≤ w.heap.size)
    (h : ∀ w', w'.ownsRow base e size (.slice (some ⟨w.heap.size, 0, none⟩) n n) n (madeCells z.cells (n * size)).toList → w.grownBy w' none → wpList P ops Q rest (a.put o.dst (.slice (some ⟨w.heap.size, 0, none⟩) n n)) w') : wpList P ops Q (o :: rest) a w := by
  obtain ⟨i, hi, hz, hsz, hby⟩ := E.info
  obtain ⟨w', hrun, r1, r2⟩ := run_make_full (P := P) w base t e i z size E.desc hi hz hsz kl kc n (by rw [hby]; exact hb) hm hbase
  subst hL
  subst hC
  rw [wpList, if_pos hw]
  refine .inl ?_
  unfold Oper.wp
  simp [execOp, ho, hl, hc, hrun, Result.andThen]
  exact h w' r1 r2
theorem used_nil (l : List Cl) : (usedOf l []).map Value.bool = List.replicate l.length (.bool false) := by
  apply List.ext_getElem
  · simp [usedOf]
  · intro i h1 h2; simp [usedOf]
set_option maxRecDepth 20000 in
set_option maxHeartbeats 2000000 in
theorem some_any (l : List Cl) (p : Option Addr) (c : Nat) (w : World) (hl : l.length ≤ 1000000) (hc : l.length ≤ c) (hrow : Row w p (l.flatMap Cl.cells)) (hz : chkL l = 0) :
    Calls Try.prog 14 #[.slice p l.length c] w fun e w' => e = .returned (.bool (linB l)) ∧ Below w.heap.size w w' := by
  have ho := (chk_ok hz).2.at
  have HCK := hid (rcheck_any l p c w hl hc hrow)
  unfold RChkTell at HCK
  rw [hz] at HCK
  have HV : Hid (tryN l (l.length + 1) [] = linB l) := by
    rw [Hid, Bool.eq_iff_iff, linB_iff]; exact try_lin ho (by omega)
  have HR := hid hrow
  have HTR := hid (try_any l p c hl ho (l.length + 1))
  unfold TryC at HTR
  clear hrow hz ho
  generalize hb : linB l = T at *
  go_enter Try.func14, Try.ntmps14
  go_wp2_with (first
    | (go_at_call 11; (with_reducible refine HCK.out.mono ?_); rintro e w1 ⟨rfl, hb1⟩; have HB1 := hid hb1; have hz1 := hb1.size; clear hb1)
    | ((with_reducible show wpList _ _ _ (⟨some 10, _, _, _, _, _⟩ :: _) _ _); go_loud (refine wpList_mkfull_w EBool (by rfl) _ _ rfl w.heap.size _ _ _ _ l.length rfl rfl rfl rfl (by omega) (by unfold maxLen; omega) (by omega) ?_); intro w2 ho2 hg2; have HO2 := hid ho2; have HB2 : Hid (Below w1.heap.size w1 w2) := (Below.refl _ _).grown hg2 (Nat.le_refl _) (by simp); have hz2 := hg2.size; clear ho2 hg2))
  have hou := HO2.out
  rw [made_one _ _ rfl, ← used_nil l] at hou
  have HBW := hid (HB1.out.trans (HB2.out.mono hz1))
  have hcall := HTR.out [] none 0 (some ⟨w1.heap.size, 0, none⟩) l.length w2 List.nodup_nil (by simp) (by simp) (by simp) (by simp) (HR.out.below HBW.out) (Row.nil _ _) (own_slice_row hou)
  rw [HV.out, List.length_nil] at hcall
  (with_reducible refine hcall.mono ?_)
  rintro e w9 ⟨rfl, hb9⟩
  clear hcall hou
  cases T with
  | true =>
    go_wp2
    go_ret
    exact ⟨rfl, below_tr hb9 HBW.out⟩
  | false =>
    go_wp2
    go_ret
    exact ⟨rfl, below_tr hb9 HBW.out⟩
end Go.Proofs.Ytdkknnmgdghioaa
namespace Go.Proofs.Ytdkknnmgdghioaa
open Go.RowKit

/-- A step of the document's loop. -/
def dC (k : ByteArray) (d v : Int) (c : Cl) (i low high : Int) : Option (Int × Int) :=
  if i = d ∨ c.key ≠ k ∨ c.to < 0 then some (low, high)
  else if c.kind = 2 ∧ c.err = 4 then some (max low c.fr, high)
  else if d < 0 ∨ (c.kind = 1 ∧ c.err = 0) ∨ (c.kind ≠ 1 ∧ c.ans ≠ v) then none
  else if high < 0 ∨ c.to < high then some (low, c.to)
  else some (low, high)
theorem dLoop_c (l : List Cl) (k : ByteArray) (d v : Int) (i : Nat) (r : List Nat) (low high : Int) : dLoop l k d v (i :: r) low high = match dC k d v (cAt l i) i low high with | none => none | some x => dLoop l k d v r x.1 x.2 := by
  conv => lhs; unfold dLoop
  unfold dC
  split
  · rfl
  · split
    · rfl
    · split
      · rfl
      · split <;> rfl
def dEnd (d : Int) (X : Option (Int × Int)) : Bool := match X with
  | none => false
  | some (low, high) => decide (d < 0) || decide (high < 0) || decide (low < high)
theorem drop_range {n i : Nat} (h : i < n) : (List.range n).drop i = i :: (List.range n).drop (i + 1) := by
  rw [List.drop_eq_getElem_cons (by simpa using h)]; simp
set_option maxRecDepth 20000 in
set_option maxHeartbeats 8000000 in
theorem rfits_loop (l : List Cl) (p : Option Addr) (c : Nat) (key : ByteArray) (d v low0 high0 : Int) (X : Option (Int × Int)) (w : World) (hl : l.length ≤ 1000000) (hd0 : -1 ≤ d) (hdn : d < l.length) (hrow : Row w p (l.flatMap Cl.cells))
    (hlow : low0 = if 0 ≤ d then (cAt l d.toNat).fr else -1) (hhigh : high0 = if 0 ≤ d then (cAt l d.toNat).to else -1) (hv : v = if 0 ≤ d then (cAt l d.toNat).value else 0) (hX : X = dLoop l key d v (List.range l.length) low0 high0)
    (hF : dFits l key d = dEnd d X) :
    Calls Try.prog 41 #[.slice p l.length c, .string key, .int .i64 d] w fun e w' => e = .returned (.bool (dFits l key d)) ∧ Below w.heap.size w w' := by
  have HR := hid hrow
  have HF := hid hF
  have HXX := hid hX
  clear hF hX hrow
  by_cases hdz : 0 ≤ d
  · rw [if_pos hdz] at hlow hhigh hv
    obtain ⟨dn, hdn2⟩ : ∃ n : Nat, d = n := ⟨d.toNat, by omega⟩
    have hdl : dn < l.length := by omega
    obtain ⟨b, o, hpb, hbw, -⟩ := HR.out.at (by have := flat_len Cl.cells 8 (fun _ => rfl) l; omega)
    have HR2 := HR.out
    rw [hpb] at HR2
    obtain ⟨-, -, -, d3, d4, d5, -, -⟩ := cl_cat HR2 dn hdl
    have hdt : d.toNat = dn := by omega
    rw [hdt] at hlow hhigh hv
    rw [← hv] at d3
    rw [← hlow] at d4
    rw [← hhigh] at d5
    subst hpb
    subst hdn2
    clear hlow hhigh hv HR2 hdt
    have hdz2 : decide ((0 : Int) ≤ (dn : Int)) = true := decide_eq_true hdz
    have hdz3 : decide ((dn : Int) < 0) = false := decide_eq_false (by omega)
    go_enter Try.func41, Try.ntmps41
    go_wp2
    clear d3 d4 d5 hdz2 hdz3
    go_loopw [7, 8, 10] (fun lo hi i wr => ∃ (k : Nat) (low high : Int), k ≤ l.length ∧ i = .int .i64 k ∧ lo = .int .i64 low ∧ hi = .int .i64 high ∧ dLoop l key dn v ((List.range l.length).drop k) low high = X ∧ Below w.heap.size w wr) (fun _ _ i _ => l.length - (intOf i).toNat)
    case atStart => exact ⟨0, _, _, Nat.zero_le _, rfl, rfl, rfl, HXX.out.symm, Below.refl _ _⟩
    case round =>
      obtain ⟨i, low, high, hi, rfl, rfl, rfl, hx, hb⟩ := hrel
      have HB := hid hb
      by_cases hlt : i < l.length
      · obtain ⟨d0, d1, d2, d3, d4, d5, d6, d7⟩ := cl_cat (HR.out.below hb) i hlt
        rw [drop_range hlt, dLoop_c] at hx
        have HX := hid hx
        clear hx hb
        obtain ⟨⟨cw, ckd, cky, cva, cfr, cto, can, cer⟩, hcc⟩ : ∃ y, y = cAt l i := ⟨_, rfl⟩
        rw [← hcc] at d0 d1 d2 d3 d4 d5 d6 d7 HX
        dsimp only at d0 d1 d2 d3 d4 d5 d6 d7
        clear hcc
        have HBC := hid (HB.out.alloc HB.out.size (.cells #[.int .i64 cw, .int .i64 ckd, .string cky, .int .i64 cva, .int .i64 cfr, .int .i64 cto, .int .i64 can, .int .i64 cer] 38))
        by_cases hid1 : (i : Int) = (dn : Int)
        · have hi1 : ((i : Int) == (dn : Int)) = true := by simpa using hid1
          have HID := hid hid1
          clear hid1
          have HSK : Hid (dLoop l key dn v ((List.range l.length).drop (i + 1)) low high = X) := by have h := HX.out; rw [show dC key dn v ⟨cw, ckd, cky, cva, cfr, cto, can, cer⟩ (i : Int) low high = some (low, high) from by simp [dC, HID.out]] at h; exact h
          clear HX
          go_wp2
          exact ⟨⟨i + 1, low, high, by omega, by go_num, rfl, rfl, HSK.out, HBC.out⟩, by simp [intOf]; omega⟩
        · have hi1 : ((i : Int) == (dn : Int)) = false := by simpa using hid1
          by_cases hkey : cky = key
          · subst hkey
            by_cases hto : cto < 0
            · have ht1 : decide (cto < 0) = true := decide_eq_true hto
              have HSK : Hid (dLoop l cky dn v ((List.range l.length).drop (i + 1)) low high = X) := by have h := HX.out; rw [show dC cky dn v ⟨cw, ckd, cky, cva, cfr, cto, can, cer⟩ (i : Int) low high = some (low, high) from by simp [dC, hid1, hto]] at h; exact h
              clear HX
              go_wp2
              exact ⟨⟨i + 1, low, high, by omega, by go_num, rfl, rfl, HSK.out, HBC.out⟩, by simp [intOf]; omega⟩
            · have ht1 : decide (cto < 0) = false := decide_eq_false hto
              by_cases hk1 : ckd = 1
              · subst hk1
                have hd : ¬ (dn : Int) < 0 := by omega
                have hd2 : decide ((dn : Int) < 0) = false := decide_eq_false hd
                by_cases he : cer = 0
                · subst he
                  have HSK : Hid (X = none) := by have h := HX.out; rw [show dC cky dn v ⟨cw, 1, cky, cva, cfr, cto, can, 0⟩ (i : Int) low high = none from by simp [dC, hid1, hto, hd]] at h; exact h.symm
                  have HV : Hid (dFits l cky dn = false) := by unfold Hid; rw [HF.out, HSK.out]; rfl
                  clear HX
                  go_wp2
                  go_ret
                  exact ⟨ret_bool HV.out.symm, HBC.out⟩
                · have he1 : (cer == 0) = false := by simpa using he
                  by_cases hh : high < 0
                  · have hh2 : decide (high < 0) = true := decide_eq_true hh
                    have HSK : Hid (dLoop l cky dn v ((List.range l.length).drop (i + 1)) low cto = X) := by have h := HX.out; rw [show dC cky dn v ⟨cw, 1, cky, cva, cfr, cto, can, cer⟩ (i : Int) low high = some (low, cto) from by simp [dC, hid1, hto, hd, he, hh]] at h; exact h
                    clear HX
                    go_wp2
                    exact ⟨⟨i + 1, low, cto, by omega, by go_num, rfl, rfl, HSK.out, HBC.out⟩, by simp [intOf]; omega⟩
                  · have hh2 : decide (high < 0) = false := decide_eq_false hh
                    by_cases hg : cto < high
                    · have hg2 : decide (cto < high) = true := decide_eq_true hg
                      have HSK : Hid (dLoop l cky dn v ((List.range l.length).drop (i + 1)) low cto = X) := by have h := HX.out; rw [show dC cky dn v ⟨cw, 1, cky, cva, cfr, cto, can, cer⟩ (i : Int) low high = some (low, cto) from by simp [dC, hid1, hto, hd, he, hh, hg]] at h; exact h
                      clear HX
                      go_wp2
                      exact ⟨⟨i + 1, low, cto, by omega, by go_num, rfl, rfl, HSK.out, HBC.out⟩, by simp [intOf]; omega⟩
                    · have hg2 : decide (cto < high) = false := decide_eq_false hg
                      have HSK : Hid (dLoop l cky dn v ((List.range l.length).drop (i + 1)) low high = X) := by have h := HX.out; rw [show dC cky dn v ⟨cw, 1, cky, cva, cfr, cto, can, cer⟩ (i : Int) low high = some (low, high) from by simp [dC, hid1, hto, hd, he, hh, hg]] at h; exact h
                      clear HX
                      go_wp2
                      exact ⟨⟨i + 1, low, high, by omega, by go_num, rfl, rfl, HSK.out, HBC.out⟩, by simp [intOf]; omega⟩
              · have hk1a : (ckd == 1) = false := by simpa using hk1
                by_cases hk2 : ckd = 2
                · subst hk2
                  by_cases he4 : cer = 4
                  · subst he4
                    have HSK : Hid (dLoop l cky dn v ((List.range l.length).drop (i + 1)) (max low cfr) high = X) := by have h := HX.out; rw [show dC cky dn v ⟨cw, 2, cky, cva, cfr, cto, can, 4⟩ (i : Int) low high = some ((max low cfr), high) from by simp [dC, hid1, hto]] at h; exact h
                    clear HX
                    go_wp2
                    exact ⟨⟨i + 1, (max low cfr), high, by omega, by go_num, rfl, rfl, HSK.out, HBC.out⟩, by simp [intOf]; omega⟩
                  · have he4a : (cer == 4) = false := by simpa using he4
                    have hd : ¬ (dn : Int) < 0 := by omega
                    have hd2 : decide ((dn : Int) < 0) = false := decide_eq_false hd
                    by_cases hv : can = v
                    · have hv1 : (can == v) = true := by simpa using hv
                      have hv2 : (can != v) = false := by simpa using hv
                      have HVE := hid hv
                      clear hv
                      by_cases hh : high < 0
                      · have hh2 : decide (high < 0) = true := decide_eq_true hh
                        have HSK : Hid (dLoop l cky dn v ((List.range l.length).drop (i + 1)) low cto = X) := by have h := HX.out; rw [show dC cky dn v ⟨cw, 2, cky, cva, cfr, cto, can, cer⟩ (i : Int) low high = some (low, cto) from by simp [dC, hid1, hto, he4, hd, HVE.out, hh]] at h; exact h
                        clear HX
                        go_wp2
                        exact ⟨⟨i + 1, low, cto, by omega, by go_num, rfl, rfl, HSK.out, HBC.out⟩, by simp [intOf]; omega⟩
                      · have hh2 : decide (high < 0) = false := decide_eq_false hh
                        by_cases hg : cto < high
                        · have hg2 : decide (cto < high) = true := decide_eq_true hg
                          have HSK : Hid (dLoop l cky dn v ((List.range l.length).drop (i + 1)) low cto = X) := by have h := HX.out; rw [show dC cky dn v ⟨cw, 2, cky, cva, cfr, cto, can, cer⟩ (i : Int) low high = some (low, cto) from by simp [dC, hid1, hto, he4, hd, HVE.out, hh, hg]] at h; exact h
                          clear HX
                          go_wp2
                          exact ⟨⟨i + 1, low, cto, by omega, by go_num, rfl, rfl, HSK.out, HBC.out⟩, by simp [intOf]; omega⟩
                        · have hg2 : decide (cto < high) = false := decide_eq_false hg
                          have HSK : Hid (dLoop l cky dn v ((List.range l.length).drop (i + 1)) low high = X) := by have h := HX.out; rw [show dC cky dn v ⟨cw, 2, cky, cva, cfr, cto, can, cer⟩ (i : Int) low high = some (low, high) from by simp [dC, hid1, hto, he4, hd, HVE.out, hh, hg]] at h; exact h
                          clear HX
                          go_wp2
                          exact ⟨⟨i + 1, low, high, by omega, by go_num, rfl, rfl, HSK.out, HBC.out⟩, by simp [intOf]; omega⟩
                    · have hv1 : (can == v) = false := by simpa using hv
                      have hv2 : (can != v) = true := by simpa using hv
                      have HSK : Hid (X = none) := by have h := HX.out; rw [show dC cky dn v ⟨cw, 2, cky, cva, cfr, cto, can, cer⟩ (i : Int) low high = none from by simp [dC, hid1, hto, he4, hd, hv]] at h; exact h.symm
                      have HV : Hid (dFits l cky dn = false) := by unfold Hid; rw [HF.out, HSK.out]; rfl
                      clear HX
                      go_wp2
                      go_ret
                      exact ⟨ret_bool HV.out.symm, HBC.out⟩
                · have hk2a : (ckd == 2) = false := by simpa using hk2
                  have hd : ¬ (dn : Int) < 0 := by omega
                  have hd2 : decide ((dn : Int) < 0) = false := decide_eq_false hd
                  by_cases hv : can = v
                  · have hv1 : (can == v) = true := by simpa using hv
                    have hv2 : (can != v) = false := by simpa using hv
                    have HVE := hid hv
                    clear hv
                    by_cases hh : high < 0
                    · have hh2 : decide (high < 0) = true := decide_eq_true hh
                      have HSK : Hid (dLoop l cky dn v ((List.range l.length).drop (i + 1)) low cto = X) := by have h := HX.out; rw [show dC cky dn v ⟨cw, ckd, cky, cva, cfr, cto, can, cer⟩ (i : Int) low high = some (low, cto) from by simp [dC, hid1, hto, hk1, hk2, hd, HVE.out, hh]] at h; exact h
                      clear HX
                      go_wp2
                      exact ⟨⟨i + 1, low, cto, by omega, by go_num, rfl, rfl, HSK.out, HBC.out⟩, by simp [intOf]; omega⟩
                    · have hh2 : decide (high < 0) = false := decide_eq_false hh
                      by_cases hg : cto < high
                      · have hg2 : decide (cto < high) = true := decide_eq_true hg
                        have HSK : Hid (dLoop l cky dn v ((List.range l.length).drop (i + 1)) low cto = X) := by have h := HX.out; rw [show dC cky dn v ⟨cw, ckd, cky, cva, cfr, cto, can, cer⟩ (i : Int) low high = some (low, cto) from by simp [dC, hid1, hto, hk1, hk2, hd, HVE.out, hh, hg]] at h; exact h
                        clear HX
                        go_wp2
                        exact ⟨⟨i + 1, low, cto, by omega, by go_num, rfl, rfl, HSK.out, HBC.out⟩, by simp [intOf]; omega⟩
                      · have hg2 : decide (cto < high) = false := decide_eq_false hg
                        have HSK : Hid (dLoop l cky dn v ((List.range l.length).drop (i + 1)) low high = X) := by have h := HX.out; rw [show dC cky dn v ⟨cw, ckd, cky, cva, cfr, cto, can, cer⟩ (i : Int) low high = some (low, high) from by simp [dC, hid1, hto, hk1, hk2, hd, HVE.out, hh, hg]] at h; exact h
                        clear HX
                        go_wp2
                        exact ⟨⟨i + 1, low, high, by omega, by go_num, rfl, rfl, HSK.out, HBC.out⟩, by simp [intOf]; omega⟩
                  · have hv1 : (can == v) = false := by simpa using hv
                    have hv2 : (can != v) = true := by simpa using hv
                    have HSK : Hid (X = none) := by have h := HX.out; rw [show dC cky dn v ⟨cw, ckd, cky, cva, cfr, cto, can, cer⟩ (i : Int) low high = none from by simp [dC, hid1, hto, hk1, hk2, hd, hv]] at h; exact h.symm
                    have HV : Hid (dFits l cky dn = false) := by unfold Hid; rw [HF.out, HSK.out]; rfl
                    clear HX
                    go_wp2
                    go_ret
                    exact ⟨ret_bool HV.out.symm, HBC.out⟩
          · have hk3 := strNe hkey
            have HSK : Hid (dLoop l key dn v ((List.range l.length).drop (i + 1)) low high = X) := by have h := HX.out; rw [show dC key dn v ⟨cw, ckd, cky, cva, cfr, cto, can, cer⟩ (i : Int) low high = some (low, high) from by simp [dC, hid1, hkey]] at h; exact h
            clear HX
            go_wp2
            exact ⟨⟨i + 1, low, high, by omega, by go_num, rfl, rfl, HSK.out, HBC.out⟩, by simp [intOf]; omega⟩
      · have hie : i = l.length := by omega
        subst hie
        have hxe : X = some (low, high) := by rw [← hx, List.drop_of_length_le (by simp)]; rfl
        have HV : Hid (dFits l key dn = (decide ((dn : Int) < 0) || decide (high < 0) || decide (low < high))) := by unfold Hid; rw [HF.out, hxe]; rfl
        clear hx hb hxe
        have h1a : decide ((dn : Int) < 0) = false := decide_eq_false (by omega)
        by_cases h2 : high < 0
        · have h2a : decide (high < 0) = true := decide_eq_true h2
          rw [h2a, Bool.or_true, Bool.true_or] at HV
          go_wp2
          go_ret
          exact ⟨ret_bool HV.out.symm, HB.out⟩
        · have h2a : decide (high < 0) = false := decide_eq_false h2
          rw [h1a, h2a, Bool.false_or, Bool.false_or] at HV
          go_wp2
          go_ret
          exact ⟨ret_bool HV.out.symm, HB.out⟩
  · rw [if_neg hdz] at hlow hhigh hv
    have hdz2 : decide ((0 : Int) ≤ d) = false := decide_eq_false hdz
    subst hlow hhigh hv
    go_enter Try.func41, Try.ntmps41
    go_wp2
    clear hdz2
    go_loopw [7, 8, 10] (fun lo hi i wr => ∃ (k : Nat) (low high : Int), k ≤ l.length ∧ i = .int .i64 k ∧ lo = .int .i64 low ∧ hi = .int .i64 high ∧ dLoop l key d 0 ((List.range l.length).drop k) low high = X ∧ Below w.heap.size w wr) (fun _ _ i _ => l.length - (intOf i).toNat)
    case atStart => exact ⟨0, _, _, Nat.zero_le _, rfl, rfl, rfl, HXX.out.symm, Below.refl _ _⟩
    case round =>
      obtain ⟨i, low, high, hi, rfl, rfl, rfl, hx, hb⟩ := hrel
      have HB := hid hb
      by_cases hlt : i < l.length
      · obtain ⟨b, o, rfl, hbw, -⟩ := (HR.out.below hb).at (by have := flat_len Cl.cells 8 (fun _ => rfl) l; omega)
        obtain ⟨d0, d1, d2, d3, d4, d5, d6, d7⟩ := cl_cat (HR.out.below hb) i hlt
        rw [drop_range hlt, dLoop_c] at hx
        have HX := hid hx
        clear hx hb
        obtain ⟨⟨cw, ckd, cky, cva, cfr, cto, can, cer⟩, hcc⟩ : ∃ y, y = cAt l i := ⟨_, rfl⟩
        rw [← hcc] at d0 d1 d2 d3 d4 d5 d6 d7 HX
        dsimp only at d0 d1 d2 d3 d4 d5 d6 d7
        clear hcc
        have HBC := hid (HB.out.alloc HB.out.size (.cells #[.int .i64 cw, .int .i64 ckd, .string cky, .int .i64 cva, .int .i64 cfr, .int .i64 cto, .int .i64 can, .int .i64 cer] 38))
        · have hid1 : ¬ (i : Int) = d := by omega
          have hi1 : ((i : Int) == d) = false := by simpa using hid1
          by_cases hkey : cky = key
          · subst hkey
            by_cases hto : cto < 0
            · have ht1 : decide (cto < 0) = true := decide_eq_true hto
              have HSK : Hid (dLoop l cky d 0 ((List.range l.length).drop (i + 1)) low high = X) := by have h := HX.out; rw [show dC cky d 0 ⟨cw, ckd, cky, cva, cfr, cto, can, cer⟩ (i : Int) low high = some (low, high) from by simp [dC, hid1, hto]] at h; exact h
              clear HX
              go_wp2
              exact ⟨⟨i + 1, low, high, by omega, by go_num, rfl, rfl, HSK.out, HBC.out⟩, by simp [intOf]; omega⟩
            · have ht1 : decide (cto < 0) = false := decide_eq_false hto
              by_cases hk1 : ckd = 1
              · subst hk1
                have hd : d < 0 := by omega
                have hd2 : decide (d < 0) = true := decide_eq_true hd
                have HSK : Hid (X = none) := by have h := HX.out; rw [show dC cky d 0 ⟨cw, 1, cky, cva, cfr, cto, can, cer⟩ (i : Int) low high = none from by simp [dC, hid1, hto, hd]] at h; exact h.symm
                have HV : Hid (dFits l cky d = false) := by unfold Hid; rw [HF.out, HSK.out]; rfl
                clear HX
                go_wp2
                go_ret
                exact ⟨ret_bool HV.out.symm, HBC.out⟩
              · have hk1a : (ckd == 1) = false := by simpa using hk1
                by_cases hk2 : ckd = 2
                · subst hk2
                  by_cases he4 : cer = 4
                  · subst he4
                    have HSK : Hid (dLoop l cky d 0 ((List.range l.length).drop (i + 1)) (max low cfr) high = X) := by have h := HX.out; rw [show dC cky d 0 ⟨cw, 2, cky, cva, cfr, cto, can, 4⟩ (i : Int) low high = some ((max low cfr), high) from by simp [dC, hid1, hto]] at h; exact h
                    clear HX
                    go_wp2
                    exact ⟨⟨i + 1, (max low cfr), high, by omega, by go_num, rfl, rfl, HSK.out, HBC.out⟩, by simp [intOf]; omega⟩
                  · have he4a : (cer == 4) = false := by simpa using he4
                    have hd : d < 0 := by omega
                    have hd2 : decide (d < 0) = true := decide_eq_true hd
                    have HSK : Hid (X = none) := by have h := HX.out; rw [show dC cky d 0 ⟨cw, 2, cky, cva, cfr, cto, can, cer⟩ (i : Int) low high = none from by simp [dC, hid1, hto, he4, hd]] at h; exact h.symm
                    have HV : Hid (dFits l cky d = false) := by unfold Hid; rw [HF.out, HSK.out]; rfl
                    clear HX
                    go_wp2
                    go_ret
                    exact ⟨ret_bool HV.out.symm, HBC.out⟩
                · have hk2a : (ckd == 2) = false := by simpa using hk2
                  have hd : d < 0 := by omega
                  have hd2 : decide (d < 0) = true := decide_eq_true hd
                  have HSK : Hid (X = none) := by have h := HX.out; rw [show dC cky d 0 ⟨cw, ckd, cky, cva, cfr, cto, can, cer⟩ (i : Int) low high = none from by simp [dC, hid1, hto, hk1, hk2, hd]] at h; exact h.symm
                  have HV : Hid (dFits l cky d = false) := by unfold Hid; rw [HF.out, HSK.out]; rfl
                  clear HX
                  go_wp2
                  go_ret
                  exact ⟨ret_bool HV.out.symm, HBC.out⟩
          · have hk3 := strNe hkey
            have HSK : Hid (dLoop l key d 0 ((List.range l.length).drop (i + 1)) low high = X) := by have h := HX.out; rw [show dC key d 0 ⟨cw, ckd, cky, cva, cfr, cto, can, cer⟩ (i : Int) low high = some (low, high) from by simp [dC, hid1, hkey]] at h; exact h
            clear HX
            go_wp2
            exact ⟨⟨i + 1, low, high, by omega, by go_num, rfl, rfl, HSK.out, HBC.out⟩, by simp [intOf]; omega⟩
      · have hie : i = l.length := by omega
        subst hie
        have hxe : X = some (low, high) := by rw [← hx, List.drop_of_length_le (by simp)]; rfl
        have HV : Hid (dFits l key d = (decide (d < 0) || decide (high < 0) || decide (low < high))) := by unfold Hid; rw [HF.out, hxe]; rfl
        clear hx hb hxe
        have h1a : decide (d < 0) = true := decide_eq_true (by omega)
        rw [h1a, Bool.true_or, Bool.true_or] at HV
        go_wp2
        go_ret
        exact ⟨ret_bool HV.out.symm, HB.out⟩

theorem rfits_any (l : List Cl) (p : Option Addr) (c : Nat) (key : ByteArray) (d : Int) (w : World) (hl : l.length ≤ 1000000) (hd0 : -1 ≤ d) (hdn : d < l.length) (hrow : Row w p (l.flatMap Cl.cells)) :
    Calls Try.prog 41 #[.slice p l.length c, .string key, .int .i64 d] w fun e w' => e = .returned (.bool (dFits l key d)) ∧ Below w.heap.size w w' :=
  rfits_loop l p c key d _ _ _ _ w hl hd0 hdn hrow rfl rfl rfl rfl rfl
end Go.Proofs.Ytdkknnmgdghioaa
namespace Go.Proofs.Ytdkknnmgdghioaa
open Go.RowKit

theorem EStr : Elem Try.prog 31 9 1 16 (.string .empty) := Elem.mk' Try.underlying31 (by kernel_rfl) rfl (by decide)
abbrev OwnS (W : World) (base : Nat) (v : Value) (ks : List ByteArray) : Prop := W.ownsRow base 9 1 v ks.length (ks.map Value.string)
theorem str_at {w : World} {b o : Nat} {ks : List ByteArray} (h : Row w (some ⟨b, o, none⟩) (ks.map Value.string)) (k : Nat) (hk : k < ks.length) : w.cell? ⟨b, o + k, none⟩ = some (.string (ks.getD k .empty)) := by
  have := h.cell k (by simpa using hk)
  rw [this]
  simp [List.getD_eq_getElem?_getD, hk]
open Classical in
noncomputable def inB (k : ByteArray) (q : List ByteArray) : Bool := decide (k ∈ q)
theorem inB_iff {k : ByteArray} {q : List ByteArray} : inB k q = true ↔ k ∈ q := by unfold inB; simp
theorem inB_snoc (k : ByteArray) (q : List ByteArray) (x : ByteArray) : inB k (q ++ [x]) = (inB k q || decide (x = k)) := by
  rw [Bool.eq_iff_iff, inB_iff, Bool.or_eq_true, inB_iff, decide_eq_true_eq]
  simp [eq_comm]
theorem belowN2' {B : Nat} {a w : World} (h : Below B a w) (n : Nat) : Below B a (w.drewN n) := ⟨h.os, h.tape, h.output, h.size, h.block⟩
set_option maxRecDepth 20000 in
set_option maxHeartbeats 4000000 in
theorem rkeys_any (l : List Cl) (p : Option Addr) (c : Nat) (w : World) (hl : l.length ≤ 1000000) (hrow : Row w p (l.flatMap Cl.cells)) :
    Calls Try.prog 15 #[.slice p l.length c] w fun e w' => ∃ v, e = .returned v ∧ OwnS w' w.heap.size v (keysF l) ∧ Below w.heap.size w w' := by
  have HR := hid hrow
  clear hrow
  go_enter Try.func15, Try.ntmps15
  go_wp2
  go_loopw [3, 4] (fun v i wr => ∃ k : Nat, k ≤ l.length ∧ i = .int .i64 k ∧ OwnS wr w.heap.size v (keysF (l.take k)) ∧ Below w.heap.size w wr) (fun _ i _ => l.length - (intOf i).toNat)
  case atStart => exact ⟨0, Nat.zero_le _, rfl, ⟨rfl, .inl ⟨rfl, rfl⟩⟩, Below.refl _ _⟩
  case round =>
    obtain ⟨i, hi, rfl, hown, hb⟩ := hrel
    have HO := hid hown
    have HB := hid hb
    obtain ⟨po, co, rfl, -⟩ := own_shape hown
    clear hown hb
    by_cases hlt : i < l.length
    · have hkl : (keysF (l.take i)).length ≤ 1000000 := by
        have h := keysF_pre l i
        obtain ⟨suf, h⟩ := h
        have h1 : (keysF (l.take i)).length ≤ (l.take i).length := by
          have hh : ∀ (q : List Cl) (acc : List ByteArray), (q.foldl keyStep acc).length ≤ acc.length + q.length := by
            intro q
            induction q with
            | nil => intro acc; simp
            | cons c q ih =>
              intro acc
              have h1 := ih (keyStep acc c)
              have h2 : (keyStep acc c).length ≤ acc.length + 1 := by unfold keyStep; split <;> simp
              rw [List.foldl_cons, List.length_cons]; omega
          simpa [keysF] using hh (l.take i) []
        have h2 : (l.take i).length ≤ l.length := by simp; omega
        omega
      obtain ⟨bl, ol, rfl, hbl, -⟩ := (HR.out.below HB.out).at (by have := flat_len Cl.cells 8 (fun _ => rfl) l; omega)
      have HKI := hid (fun h => keys_in hlt h)
      have HKO := hid (fun h => keys_out hlt h)
      generalize hkq : keysF (l.take i) = q at *
      have HKQ := hid hkq
      obtain ⟨n, hn⟩ : ∃ n, n = q.length := ⟨_, rfl⟩
      have HN := hid hn
      have HO : Hid (wr.ownsRow w.heap.size 9 1 (.slice po n co) n (q.map Value.string)) := by rw [hn]; exact HO.out
      rw [← hn] at hkl ⊢
      clear hkq hn
      go_wp2
      go_loopw [5, 6] (fun s u wr2 => ∃ k : Nat, k ≤ n ∧ u = .int .i64 k ∧ s = .bool (inB (cAt l i).key (q.take k)) ∧ Below wr.heap.size wr wr2) (fun _ u _ => n - (intOf u).toNat)
      case atStart => exact ⟨0, Nat.zero_le _, rfl, by simp [inB], Below.refl _ _⟩
      case round =>
        obtain ⟨k, hk, rfl, rfl, hb⟩ := hrel
        have HB2 := hid hb
        clear hb
        by_cases hlt2 : k < n
        · have hkq : k < q.length := by rw [← HN.out]; exact hlt2
          have hrq := (own_slice_row HO.out).below HB2.out
          obtain ⟨bo, oo, rfl, hbo, -⟩ := hrq.at (by simpa using (show 0 < q.length by omega))
          have c0 := str_at hrq k hkq
          have d2 := (cl_cat ((HR.out.below HB.out).below HB2.out) i hlt).2.2.1
          have HT : Hid (inB (cAt l i).key (q.take (k + 1)) = (inB (cAt l i).key (q.take k) || decide (q.getD k .empty = (cAt l i).key))) := by
            have e : q.take (k + 1) = q.take k ++ [q.getD k .empty] := by rw [List.take_add_one, List.getElem?_eq_getElem hkq]; simp [List.getD_eq_getElem?_getD, hkq]
            rw [Hid, e, inB_snoc]
          generalize (cAt l i).key = key at d2 HT HKI HKO ⊢
          generalize q.getD k .empty = kk at c0 HT
          have hi1 : decide ((i : Int) < 0) = false := decide_eq_false (by omega)
          have hi2 : decide ((l.length : Int) ≤ (i : Int)) = false := decide_eq_false (by omega)
          have hi3 : decide (l.length ≤ i) = false := decide_eq_false (by omega)
          have hk1 : decide ((k : Int) < 0) = false := decide_eq_false (by omega)
          have hk2 : decide ((n : Int) ≤ (k : Int)) = false := decide_eq_false (by omega)
          have hk3 : decide (n ≤ k) = false := decide_eq_false (by omega)
          clear hrq
          cases hin : inB key (q.take k) with
          | true =>
            rw [hin, Bool.true_or] at HT
            clear hin
            go_wp2
            go_quiet (fail)
            go_wp2
            exact ⟨⟨k + 1, by omega, by go_num, by rw [HT.out], belowN2' HB2.out _⟩, by simp [intOf]; omega⟩
          | false =>
            rw [hin, Bool.false_or] at HT
            clear hin
            by_cases hke : kk = key
            · subst hke
              have HT2 : Hid (inB kk (q.take (k + 1)) = true) := by rw [Hid, HT.out]; simp
              go_wp2
              go_quiet (fail)
              go_wp2
              exact ⟨⟨k + 1, by omega, by go_num, by rw [HT2.out], belowN2' HB2.out _⟩, by simp [intOf]; omega⟩
            · have HT2 : Hid (inB key (q.take (k + 1)) = false) := by rw [Hid, HT.out]; simp [hke]
              have hne := strNe hke
              go_wp2
              go_quiet (fail)
              go_wp2
              exact ⟨⟨k + 1, by omega, by go_num, by rw [HT2.out], belowN2' HB2.out _⟩, by simp [intOf]; omega⟩
        · have hke : k = n := by omega
          subst hke
          have hq : q.take k = q := List.take_of_length_le (by rw [← HN.out]; exact Nat.le_refl _)
          rw [hq]
          have HBW : Hid (Below w.heap.size w wr) := HB.out.trans (HB2.out.mono HB.out.size)
          cases hin : inB (cAt l i).key q with
          | true =>
            have HKT := hid (HKI.out (inB_iff.1 hin))
            clear hin hq
            go_wp2
            exact ⟨⟨i + 1, by omega, by go_num, by rw [HKT.out]; exact own_cast (own_below HO.out HB2.out) HN.out rfl, HBW.out⟩, by simp [intOf]; omega⟩
          | false =>
            have HKT := hid (HKO.out (fun h => by rw [inB_iff.2 h] at hin; cases hin))
            have d2 := (cl_cat ((HR.out.below HB.out).below HB2.out) i hlt).2.2.1
            clear hin hq
            generalize (cAt l i).key = key at d2 HKT ⊢
            have hi1 : decide ((i : Int) < 0) = false := decide_eq_false (by omega)
            go_wp2_with ((with_reducible show wpList _ _ _ (⟨some 41, _, _, _, _, _⟩ :: _) _ _); go_loud (refine wpList_app EStr rfl _ _ rfl w.heap.size _ _ _ rfl ((own_below HO.out HB2.out).alloc _) _ 1 1 [.string key] rfl rfl (by simp) (row_newAt _ _ _ _ (by simp)) (by simp [Value.oneCell']) (by have := HN.out; unfold maxLen; omega) (by have := HN.out; omega) (by have := HBW.out.size; simp; omega) ?_); intro v8 w8 ho8 hg8 hs8; have HO8 := hid ho8; have HG8 := hid hg8; obtain ⟨p8, c8, rfl, -⟩ := own_shape ho8; clear ho8 hg8 hs8)
            exact ⟨⟨i + 1, by omega, by go_num, by rw [HKT.out]; exact own_cast HO8.out (by have := HN.out; simp; omega) (by simp), (HBW.out.alloc HBW.out.size _).grown HG8.out (by have := HBW.out.size; simp; omega) (fun g e => own_ge HO.out g e)⟩, by simp [intOf]; omega⟩
    · have hie : i = l.length := by omega
      subst hie
      have hte : l.take l.length = l := List.take_of_length_le (Nat.le_refl _)
      rw [hte] at HO ⊢
      clear hte
      go_wp2
      go_ret
      exact ⟨_, rfl, HO.out, HB.out⟩
theorem ofN_take (l : List Cl) (key : ByteArray) (k : Nat) (h : k < l.length) : ofN (l.take (k + 1)) key = if (cAt l k).key = key then ofN (l.take k) key ++ [cAt l k] else ofN (l.take k) key := by
  rw [take_snoc_c k h]
  unfold ofN
  rw [List.filter_append]
  by_cases e : (cAt l k).key = key <;> simp [e]
theorem ofN_len (l : List Cl) (key : ByteArray) : (ofN l key).length ≤ l.length := List.length_filter_le _ _
set_option maxRecDepth 20000 in
set_option maxHeartbeats 4000000 in
theorem rof_any (l : List Cl) (p : Option Addr) (c : Nat) (key : ByteArray) (w : World) (hl : l.length ≤ 1000000) (hrow : Row w p (l.flatMap Cl.cells)) :
    Calls Try.prog 16 #[.slice p l.length c, .string key] w fun e w' => ∃ v, e = .returned v ∧ OwnC w' w.heap.size v (ofN l key) ∧ Below w.heap.size w w' := by
  have HR := hid hrow
  clear hrow
  go_enter Try.func16, Try.ntmps16
  go_wp2
  go_loopw [5, 6] (fun v i wr => ∃ k : Nat, k ≤ l.length ∧ i = .int .i64 k ∧ OwnC wr w.heap.size v (ofN (l.take k) key) ∧ Below w.heap.size w wr) (fun _ i _ => l.length - (intOf i).toNat)
  case atStart => exact ⟨0, Nat.zero_le _, rfl, ⟨rfl, .inl ⟨rfl, rfl⟩⟩, Below.refl _ _⟩
  case round =>
    obtain ⟨i, hi, rfl, hown, hb⟩ := hrel
    have HO := hid hown
    have HB := hid hb
    obtain ⟨po, co, rfl, -⟩ := own_shape hown
    clear hown hb
    by_cases hlt : i < l.length
    · obtain ⟨bl, ol, rfl, hbl, -⟩ := (HR.out.below HB.out).at (by have := flat_len Cl.cells 8 (fun _ => rfl) l; omega)
      obtain ⟨d0, d1, d2, d3, d4, d5, d6, d7⟩ := cl_cat (HR.out.below HB.out) i hlt
      have HT := hid (ofN_take l key i hlt)
      have hol := Nat.le_trans (ofN_len (l.take i) key) (by simp; omega : (l.take i).length ≤ l.length)
      generalize ofN (l.take i) key = q at *
      by_cases hk : (cAt l i).key = key
      · rw [if_pos hk] at HT
        have hse := strEq hk
        rw [hk] at d2
        have HC : Hid (Cl.cells (cAt l i) = [.int .i64 (cAt l i).w, .int .i64 (cAt l i).kind, .string key, .int .i64 (cAt l i).value, .int .i64 (cAt l i).fr, .int .i64 (cAt l i).to, .int .i64 (cAt l i).ans, .int .i64 (cAt l i).err]) := by unfold Hid Cl.cells; rw [hk]
        have HONE := hid (cl_ones (cAt l i))
        rw [HC.out] at HONE
        clear hk hse
        go_wp2_with ((with_reducible show wpList _ _ _ (⟨some 26, _, _, _, _, _⟩ :: _) _ _); go_loud (refine wpList_app ECall rfl _ _ rfl w.heap.size _ _ _ rfl (HO.out.alloc _) _ 1 1 [.int .i64 (cAt l i).w, .int .i64 (cAt l i).kind, .string key, .int .i64 (cAt l i).value, .int .i64 (cAt l i).fr, .int .i64 (cAt l i).to, .int .i64 (cAt l i).ans, .int .i64 (cAt l i).err] rfl rfl (by simp) (row_newAt _ _ _ _ (by simp)) HONE.out (by unfold maxLen; omega) (by omega) (by have := HB.out.size; simp; omega) ?_); intro v8 w8 ho8 hg8 hs8; have HO8 := hid ho8; have HG8 := hid hg8; obtain ⟨p8, c8, rfl, -⟩ := own_shape ho8; clear ho8 hg8 hs8)
        exact ⟨⟨i + 1, by omega, by go_num, by rw [HT.out]; exact own_cast HO8.out (by simp) (by simp [HC.out]), (HB.out.alloc HB.out.size _).grown HG8.out (by have := HB.out.size; simp; omega) (fun g e => own_ge HO.out g e)⟩, by simp [intOf]; omega⟩
      · rw [if_neg hk] at HT
        have hse := strNe hk
        clear hk
        go_wp2
        exact ⟨⟨i + 1, by omega, by go_num, by rw [HT.out]; exact HO.out, HB.out⟩, by simp [intOf]; omega⟩
    · have hie : i = l.length := by omega
      subst hie
      have hte : l.take l.length = l := List.take_of_length_le (Nat.le_refl _)
      rw [hte] at HO ⊢
      clear hte
      go_wp2
      go_ret
      exact ⟨_, rfl, HO.out, HB.out⟩
end Go.Proofs.Ytdkknnmgdghioaa
