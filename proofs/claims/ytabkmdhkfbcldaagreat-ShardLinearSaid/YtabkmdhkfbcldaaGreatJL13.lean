/-
 fits: whether a call may have put what the others say.
-/
import Derived.Test.YtabkmdhkfbcldaaGreatJL12
import Derived.Deep.DeepCutAuto
namespace Go.Proofs.YtabkmdhkfbcldaaGreat
open Go.RowKit
theorem ahead_lit (a b : Cl) (w : World) : Calls Tryz.prog 48 #[.agg #[.int .i64 a.w, .int .i64 a.kind, .string a.key, .int .i64 a.value, .int .i64 a.fr, .int .i64 a.to, .int .i64 a.ans, .int .i64 a.err], .agg #[.int .i64 b.w, .int .i64 b.kind, .string b.key, .int .i64 b.value, .int .i64 b.fr, .int .i64 b.to, .int .i64 b.ans, .int .i64 b.err]] w fun e w' => e = .returned (.bool (aheadC a b)) ∧ Below w.heap.size w w' := ahead_any a b w
theorem cl_held {W : World} {b o : Nat} {ys : List Cl} (h : Row W (some ⟨b, o, none⟩) (ys.flatMap Cl.cellsLn)) (k : Nat) (hk : k < ys.length) :
  (∀ w, Below W.heap.size W w → w.cell? ⟨b, o + k * 8, none⟩ = some (.int .i64 (cAt ys k).w)) ∧ (∀ w, Below W.heap.size W w → w.cell? ⟨b, o + k * 8 + 1, none⟩ = some (.int .i64 (cAt ys k).kind)) ∧ (∀ w, Below W.heap.size W w → w.cell? ⟨b, o + k * 8 + 2, none⟩ = some (.string (cAt ys k).key)) ∧ (∀ w, Below W.heap.size W w → w.cell? ⟨b, o + k * 8 + 3, none⟩ = some (.int .i64 (cAt ys k).value)) ∧ (∀ w, Below W.heap.size W w → w.cell? ⟨b, o + k * 8 + 4, none⟩ = some (.int .i64 (cAt ys k).fr)) ∧ (∀ w, Below W.heap.size W w → w.cell? ⟨b, o + k * 8 + 5, none⟩ = some (.int .i64 (cAt ys k).to)) ∧ (∀ w, Below W.heap.size W w → w.cell? ⟨b, o + k * 8 + 6, none⟩ = some (.int .i64 (cAt ys k).ans)) ∧ (∀ w, Below W.heap.size W w → w.cell? ⟨b, o + k * 8 + 7, none⟩ = some (.int .i64 (cAt ys k).err)) :=
 ⟨fun w hb => (cl_cat (h.below hb) k hk).1, fun w hb => (cl_cat (h.below hb) k hk).2.1, fun w hb => (cl_cat (h.below hb) k hk).2.2.1, fun w hb => (cl_cat (h.below hb) k hk).2.2.2.1, fun w hb => (cl_cat (h.below hb) k hk).2.2.2.2.1, fun w hb => (cl_cat (h.below hb) k hk).2.2.2.2.2.1, fun w hb => (cl_cat (h.below hb) k hk).2.2.2.2.2.2.1, fun w hb => (cl_cat (h.below hb) k hk).2.2.2.2.2.2.2⟩
def natVLn (i : Nat) : Value := .int .i64 (i : Int)
theorem below_tr {A B C : World} (h2 : Below B.heap.size B C) (h1 : Below A.heap.size A B) : Below A.heap.size A C := h1.trans (h2.mono h1.size)
theorem nat_at {w : World} {b o : Nat} {ys : List Nat} (h : Row w (some ⟨b, o, none⟩) (ys.map natVLn)) (k : Nat) (hk : k < ys.length) : w.cell? ⟨b, o + k, none⟩ = some (.int .i64 ((ys.getD k 0 : Nat) : Int)) := by
 have := h.cell k (by simpa using hk)
 rw [this]
 simp [natVLn, List.getD_eq_getElem?_getD, hk]
def allTo (ys : List Nat) (f : Nat → Bool) (k : Nat) : Prop := ∀ j, j < k → f (ys.getD j 0) = true
theorem allTo_all {ys : List Nat} {f : Nat → Bool} (h : allTo ys f ys.length) : ys.all f = true := by
 rw [List.all_eq_true]
 intro x hx
 obtain ⟨j, hj, rfl⟩ := List.getElem_of_mem hx
 have := h j hj
 simpa [List.getD_eq_getElem?_getD, hj] using this
theorem all_no {ys : List Nat} {f : Nat → Bool} {k : Nat} (hk : k < ys.length) (h : f (ys.getD k 0) = false) : ys.all f = false := by
 rw [List.all_eq_false]
 exact ⟨ys[k], List.getElem_mem hk, by simpa [List.getD_eq_getElem?_getD, hk] using h⟩
theorem allTo_succ {ys : List Nat} {f : Nat → Bool} {k : Nat} (h : allTo ys f k) (h1 : f (ys.getD k 0) = true) : allTo ys f (k + 1) := fun j hj => by
 by_cases e : j = k
 ·subst e; exact h1
 ·exact h j (by omega)
theorem getD_lt {ys : List Nat} {n k : Nat} (h : ∀ i ∈ ys, i < n) (hk : k < ys.length) : ys.getD k 0 < n := by
 have : ys.getD k 0 = ys[k] := by simp [List.getD_eq_getElem?_getD, hk]
 rw [this]; exact h _ (List.getElem_mem hk)
set_option maxRecDepth 20000 in
set_option maxHeartbeats 4000000 in
theorem fits_any (l : List Cl) (p : Option Addr) (c : Nat) (sb sa : List Nat) (pb pa pp : Option Addr) (cb ca np cp : Nat) (s : Bool) (q : Nat) (w : World) (hl : l.length ≤ 1000000) (hq : q < l.length) (hsb : ∀ i ∈ sb, i < l.length) (hsa : ∀ i ∈ sa, i < l.length)
  (hlb : sb.length ≤ 1000000) (hla : sa.length ≤ 1000000) (hrow : Row w p (l.flatMap Cl.cellsLn)) (hb : Row w pb (sb.map natVLn)) (ha : Row w pa (sa.map natVLn)) :
  Calls Tryz.prog 53 #[.slice p l.length c, .agg #[.slice pb sb.length cb, .slice pa sa.length ca, .slice pp np cp, .bool s], .int .i64 (q : Int)] w fun e w' => e = .returned (.bool (fitsC l sb sa q)) ∧ Below w.heap.size w w' := by
 obtain ⟨b, off, rfl, hbs, _⟩ := hrow.at (by have := flat_len Cl.cellsLn 8 (fun _ => rfl) l; omega)
 obtain ⟨W1, hW1⟩ : ∃ x, x = w.alloc (.cells #[.slice pb sb.length cb, .slice pa sa.length ca, .slice pp np cp, .bool s] 109) := ⟨_, rfl⟩
 have HX : Hid (Below w.heap.size w W1) := by rw [hW1]; exact (Below.refl w.heap.size w).alloc (Nat.le_refl _) _
 have hc0 : W1.cell? ⟨w.heap.size, 0, none⟩ = some (.slice pb sb.length cb) := by rw [hW1]; exact cell_of_row _ _ 0 _ _ _ (heap_alloc_new w _)
 have hc1 : W1.cell? ⟨w.heap.size, 1, none⟩ = some (.slice pa sa.length ca) := by rw [hW1]; exact cell_of_row _ _ 1 _ _ _ (heap_alloc_new w _)
 have hz1 : W1.heap.size = w.heap.size + 1 := by rw [hW1]; simp
 have H0 := hid hc0
 have H1 : Hid (∀ wr, Below W1.heap.size W1 wr → wr.cell? ⟨w.heap.size, 1, none⟩ = some (.slice pa sa.length ca)) := fun wr hb => by
  rw [hb.cell (p := ⟨w.heap.size, 1, none⟩) (show w.heap.size < W1.heap.size by omega)]; exact hc1
 have HW := hid hW1
 clear hc0 hc1 hz1 hW1
 have HR := hid hrow
 have HRB := hid hb
 have HRA := hid ha
 have HQ := hid hq
 have HSB := hid hsb
 have HSA := hid hsa
 clear hrow hb ha hq hsb hsa
 go_enter Tryz.func53, Tryz.ntmps53
 go_upto_region 1 with (fail)
 rw [← HW.out]
 have c0 := H0.out
 clear HW
 go_wp2
 clear c0
 go_loopw [16] (fun i wr => ∃ k : Nat, k ≤ sb.length ∧ i = .int .i64 k ∧ allTo sb (fun x => !aheadC (cAt l q) (cAt l x) && sa.all (fun j => !aheadC (cAt l j) (cAt l x))) k ∧ Below W1.heap.size W1 wr) (fun i _ => sb.length - (intOf i).toNat)
 case atStart => exact ⟨0, Nat.zero_le _, rfl, fun j hj => by omega, Below.refl _ _⟩
 case round =>
  obtain ⟨k, hk, rfl, hall, hb⟩ := hrel
  have HALL := hid hall
  have HB := hid hb
  clear hall hb
  by_cases hlt : k < sb.length
  ·obtain ⟨b2, o2, rfl, hb2, _⟩ := HRB.out.at (by simpa using (show 0 < sb.length by omega))
   have hr2 := (HR.out.below HX.out).below HB.out
   have cx := nat_at ((HRB.out.below HX.out).below HB.out) k hlt
   have hxl := getD_lt HSB.out hlt
   have HF := hid (fun (h : _ = false) => all_no (ys := sb) (f := fun x => !aheadC (cAt l q) (cAt l x) && sa.all (fun j => !aheadC (cAt l j) (cAt l x))) hlt h)
   have HN := hid (fun h => allTo_succ HALL.out (k := k) h)
   clear HALL
   generalize sb.getD k 0 = x at cx hxl HF HN
   obtain ⟨a0, a1, a2, a3, a4, a5, a6, a7⟩ := cl_held hr2 q HQ.out
   obtain ⟨d0, d1, d2, d3, d4, d5, d6, d7⟩ := cl_held hr2 x hxl
   have HA := hid (fun w1 => ahead_lit (cAt l q) (cAt l x) w1)
   have hq1 : decide ((q : Int) < 0) = false := decide_eq_false (by omega)
   have hx1 : decide ((x : Int) < 0) = false := decide_eq_false (by omega)
   have hq2 : decide ((l.length : Int) ≤ (q : Int)) = false := decide_eq_false (by have := HQ.out; omega)
   have hx2 : decide ((l.length : Int) ≤ (x : Int)) = false := decide_eq_false (by omega)
   have hq3 : decide (l.length ≤ q) = false := decide_eq_false (by have := HQ.out; omega)
   have hx3 : decide (l.length ≤ x) = false := decide_eq_false (by omega)
   have hql := HQ.out
   clear hr2
   go_upto_region 4 with (fail)
   go_cut [28] from 20 to 28 (fun v wx => v = .bool (aheadC (cAt l q) (cAt l x)) ∧ Below wr.heap.size wr wx)
   case first =>
    go_region_held3 (fun w' => Below wr.heap.size wr w') (first | exact (Below.refl _ _).drew | assumption) (first | (go_at_call 48; with_reducible refine (HA.out _).mono ?_; rintro e w' ⟨rfl, hbq⟩; have hq9 : Below wr.heap.size wr w' := below_tr hbq (by assumption); clear hbq))
    all_goals (go_wp2_with fail; go_meet)
    all_goals exact ⟨rfl, by assumption⟩
   case rest =>
    obtain ⟨rfl, hbc⟩ := hcut
    have hbw := below_tr hbc HB.out
    cases hA : aheadC (cAt l q) (cAt l x) with
    | true =>
     have HV : Hid (fitsC l sb sa q = false) := by
      unfold Hid fitsC
      rw [HF.out (by rw [hA]; rfl)]; rfl
     clear a0 a1 a2 a3 a4 a5 a6 a7 d0 d1 d2 d3 d4 d5 d6 d7 hA
     go_wp2
     go_ret
     exact ⟨ret_bool HV.out.symm, below_tr hbw HX.out⟩
    | false =>
     rw [hA] at HF HN
     have HF := hid (fun (h : (sa.all fun j => !aheadC (cAt l j) (cAt l x)) = false) => HF.out (by rw [h]; rfl))
     have HN := hid (fun (h : (sa.all fun j => !aheadC (cAt l j) (cAt l x)) = true) => HN.out (by rw [h]; rfl))
     have c1 := H1.out wc hbw
     have HBW := hid hbw
     clear a0 a1 a2 a3 a4 a5 a6 a7 d0 d1 d2 d3 d4 d5 d6 d7 hA HA cx hbw
     go_wp2
     clear c1
     go_loopw [32] (fun i wr2 => ∃ m : Nat, m ≤ sa.length ∧ i = .int .i64 m ∧ allTo sa (fun j => !aheadC (cAt l j) (cAt l x)) m ∧ Below W1.heap.size W1 wr2) (fun i _ => sa.length - (intOf i).toNat)
     case atStart => exact ⟨0, Nat.zero_le _, rfl, fun j hj => by omega, HBW.out⟩
     case round =>
      obtain ⟨m, hm, rfl, hall, hb2⟩ := hrel
      have HALL := hid hall
      have HB2 := hid hb2
      clear hall hb2
      by_cases hlt2 : m < sa.length
      ·obtain ⟨b3, o3, rfl, hb3, _⟩ := HRA.out.at (by simpa using (show 0 < sa.length by omega))
       have hr2 := (HR.out.below HX.out).below HB2.out
       have cy := nat_at ((HRA.out.below HX.out).below HB2.out) m hlt2
       have hyl := getD_lt HSA.out hlt2
       have HF2 := hid (fun (h : _ = false) => all_no (ys := sa) (f := fun j => !aheadC (cAt l j) (cAt l x)) hlt2 h)
       have HN2 := hid (fun h => allTo_succ HALL.out (k := m) h)
       clear HALL
       generalize sa.getD m 0 = y at cy hyl HF2 HN2
       obtain ⟨a0, a1, a2, a3, a4, a5, a6, a7⟩ := cl_held hr2 y hyl
       obtain ⟨d0, d1, d2, d3, d4, d5, d6, d7⟩ := cl_held hr2 x hxl
       have HA := hid (fun w1 => ahead_lit (cAt l y) (cAt l x) w1)
       have hy1 : decide ((y : Int) < 0) = false := decide_eq_false (by omega)
       have hy2 : decide ((l.length : Int) ≤ (y : Int)) = false := decide_eq_false (by omega)
       have hy3 : decide (l.length ≤ y) = false := decide_eq_false (by omega)
       clear hr2
       go_upto_region 9 with (fail)
       go_cut [44] from 36 to 44 (fun v wx => v = .bool (aheadC (cAt l y) (cAt l x)) ∧ Below wr.heap.size wr wx)
       case first =>
        go_region_held3 (fun w' => Below wr.heap.size wr w') (first | exact (Below.refl _ _).drew | assumption) (first | (go_at_call 48; with_reducible refine (HA.out _).mono ?_; rintro e w' ⟨rfl, hbq⟩; have hq9 : Below wr.heap.size wr w' := below_tr hbq (by assumption); clear hbq))
        all_goals (go_wp2_with fail; go_meet)
        all_goals exact ⟨rfl, by assumption⟩
       case rest =>
        obtain ⟨rfl, hbc2⟩ := hcut
        have hbw2 := below_tr hbc2 HB2.out
        cases hA : aheadC (cAt l y) (cAt l x) with
        | true =>
         have HV : Hid (fitsC l sb sa q = false) := by
          unfold Hid fitsC
          rw [HF.out (HF2.out (by rw [hA]; rfl))]; rfl
         clear a0 a1 a2 a3 a4 a5 a6 a7 d0 d1 d2 d3 d4 d5 d6 d7 hA
         go_wp2
         go_ret
         exact ⟨ret_bool HV.out.symm, below_tr hbw2 HX.out⟩
        | false =>
         have HN3 := hid (HN2.out (by rw [hA]; rfl))
         clear a0 a1 a2 a3 a4 a5 a6 a7 d0 d1 d2 d3 d4 d5 d6 d7 hA
         go_wp2
         go_roundw
         case rel => exact ⟨m + 1, by omega, by go_num, HN3.out, hbw2⟩
         case measure => simp [intOf]; omega
      ·have hme : m = sa.length := by omega
       subst hme
       have HN3 := hid (HN.out (allTo_all HALL.out))
       go_wp2
       go_roundw
       case rel => exact ⟨k + 1, by omega, by go_num, HN3.out, HB2.out⟩
       case measure => simp [intOf]; omega
  ·have hke : k = sb.length := by omega
   subst hke
   have HS := hid (allTo_all HALL.out)
   have c1 := H1.out wr HB.out
   clear HALL
   go_wp2
   clear c1
   go_loopw [50] (fun i wr2 => ∃ m : Nat, m ≤ sa.length ∧ i = .int .i64 m ∧ allTo sa (fun i => !aheadC (cAt l i) (cAt l q) && (decide ((cAt l i).kind = 1) || decide ((cAt l i).ans = (cAt l q).value))) m ∧ Below W1.heap.size W1 wr2) (fun i _ => sa.length - (intOf i).toNat)
   case atStart => exact ⟨0, Nat.zero_le _, rfl, fun j hj => by omega, HB.out⟩
   case round =>
    obtain ⟨m, hm, rfl, hall, hb2⟩ := hrel
    have HALL := hid hall
    have HB2 := hid hb2
    clear hall hb2
    by_cases hlt2 : m < sa.length
    ·obtain ⟨b3, o3, rfl, hb3, _⟩ := HRA.out.at (by simpa using (show 0 < sa.length by omega))
     have hr2 := (HR.out.below HX.out).below HB2.out
     have cy := nat_at ((HRA.out.below HX.out).below HB2.out) m hlt2
     have hyl := getD_lt HSA.out hlt2
     have HF2 := hid (fun (h : _ = false) => all_no (ys := sa) (f := fun i => !aheadC (cAt l i) (cAt l q) && (decide ((cAt l i).kind = 1) || decide ((cAt l i).ans = (cAt l q).value))) hlt2 h)
     have HN2 := hid (fun h => allTo_succ HALL.out (k := m) h)
     clear HALL
     generalize sa.getD m 0 = y at cy hyl HF2 HN2
     obtain ⟨a0, a1, a2, a3, a4, a5, a6, a7⟩ := cl_held hr2 y hyl
     obtain ⟨d0, d1, d2, d3, d4, d5, d6, d7⟩ := cl_held hr2 q HQ.out
     have HA := hid (fun w1 => ahead_lit (cAt l y) (cAt l q) w1)
     have hy1 : decide ((y : Int) < 0) = false := decide_eq_false (by omega)
     have hy2 : decide ((l.length : Int) ≤ (y : Int)) = false := decide_eq_false (by omega)
     have hy3 : decide (l.length ≤ y) = false := decide_eq_false (by omega)
     have hq1 : decide ((q : Int) < 0) = false := decide_eq_false (by omega)
     have hq2 : decide ((l.length : Int) ≤ (q : Int)) = false := decide_eq_false (by have := HQ.out; omega)
     have hq3 : decide (l.length ≤ q) = false := decide_eq_false (by have := HQ.out; omega)
     have hql := HQ.out
     clear hr2
     obtain ⟨F, hF⟩ : ∃ F, F = (!aheadC (cAt l y) (cAt l q) && (decide ((cAt l y).kind = 1) || decide ((cAt l y).ans = (cAt l q).value))) := ⟨_, rfl⟩
     rw [← hF] at HF2 HN2
     go_upto_region 16 with (fail)
     go_cut [83] from 54 to 83 (fun v wx => v = .bool (!F) ∧ Below wr.heap.size wr wx)
     case first =>
      cases hA : aheadC (cAt l y) (cAt l q) with
      | true =>
       have HV : Hid ((!F) = true) := by rw [hF, hA]; rfl
       rw [hA] at HA
       clear hF hA
       refine wp_region_held_drew (S := fun w' => Below wr.heap.size wr w') (by kernel_rfl) ((Below.refl _ _).drew) (fun hHeld => ?_)
       refine wpAnyH_take (i := 0) (oi := { dst := some 54, op := Op.move (Operand.tmp 0), type := 32, pos := "linear.go:182", after := #[], guard := none }) (v := ?rav0) rfl (by kernel_rfl) (by kernel_rfl) (by kernel_rfl) (fun _ _ _ h => h) (Or.inl ⟨by rfl, ?rah0⟩) (by assumption) ?rar0
       case rah0 => ((intro w hSw; (try dsimp only at hSw); go_simp); try with_reducible rfl)
       try simp only [Act.put, List.setIfInBounds_toArray, List.set_cons_zero, List.set_cons_succ]
       refine wpAnyH_take (i := 1) (oi := { dst := some 55, op := Op.move (Operand.tmp 12), type := 3, pos := "linear.go:182", after := #[], guard := none }) (v := ?rav1) rfl (by kernel_rfl) (by kernel_rfl) (by kernel_rfl) (fun _ _ _ h => h) (Or.inl ⟨by rfl, ?rah1⟩) (by assumption) ?rar1
       case rah1 => ((intro w hSw; (try dsimp only at hSw); go_simp); try with_reducible rfl)
       try simp only [Act.put, List.setIfInBounds_toArray, List.set_cons_zero, List.set_cons_succ]
       refine wpAnyH_take (i := 2) (oi := { dst := some 56, op := Op.indexAddr 32 (Operand.tmp 54) (Operand.tmp 55), type := 0, pos := "linear.go:182", after := #[{ on := 0, ground := Ground.data }, { on := 1, ground := Ground.data }], guard := none }) (v := ?rav2) rfl (by kernel_rfl) (by kernel_rfl) (by kernel_rfl) (fun _ _ _ h => h) (Or.inl ⟨by rfl, ?rah2⟩) (by assumption) ?rar2
       case rah2 => ((intro w hSw; (try dsimp only at hSw); go_simp); try with_reducible rfl)
       try simp only [Act.put, List.setIfInBounds_toArray, List.set_cons_zero, List.set_cons_succ]
       refine wpAnyH_take (i := 3) (oi := { dst := some 57, op := Op.load 35 (Operand.tmp 56), type := 35, pos := "linear.go:182", after := #[{ on := 2, ground := Ground.data }], guard := none }) (v := ?rav3) rfl (by kernel_rfl) (by kernel_rfl) (by kernel_rfl) (fun _ _ _ h => h) (Or.inl ⟨by rfl, ?rah3⟩) (by assumption) ?rar3
       case rah3 => ((intro w hSw; (try dsimp only at hSw); go_simp); try with_reducible rfl)
       try simp only [Act.put, List.setIfInBounds_toArray, List.set_cons_zero, List.set_cons_succ]
       refine wpAnyH_take (i := 4) (oi := { dst := some 58, op := Op.move (Operand.tmp 0), type := 32, pos := "linear.go:182", after := #[], guard := none }) (v := ?rav4) rfl (by kernel_rfl) (by kernel_rfl) (by kernel_rfl) (fun _ _ _ h => h) (Or.inl ⟨by rfl, ?rah4⟩) (by assumption) ?rar4
       case rah4 => ((intro w hSw; (try dsimp only at hSw); go_simp); try with_reducible rfl)
       try simp only [Act.put, List.setIfInBounds_toArray, List.set_cons_zero, List.set_cons_succ]
       refine wpAnyH_take (i := 5) (oi := { dst := some 59, op := Op.move (Operand.tmp 2), type := 3, pos := "linear.go:182", after := #[], guard := none }) (v := ?rav5) rfl (by kernel_rfl) (by kernel_rfl) (by kernel_rfl) (fun _ _ _ h => h) (Or.inl ⟨by rfl, ?rah5⟩) (by assumption) ?rar5
       case rah5 => ((intro w hSw; (try dsimp only at hSw); go_simp); try with_reducible rfl)
       try simp only [Act.put, List.setIfInBounds_toArray, List.set_cons_zero, List.set_cons_succ]
       refine wpAnyH_take (i := 6) (oi := { dst := some 60, op := Op.indexAddr 32 (Operand.tmp 58) (Operand.tmp 59), type := 0, pos := "linear.go:182", after := #[{ on := 4, ground := Ground.data }, { on := 5, ground := Ground.data }], guard := none }) (v := ?rav6) rfl (by kernel_rfl) (by kernel_rfl) (by kernel_rfl) (fun _ _ _ h => h) (Or.inl ⟨by rfl, ?rah6⟩) (by assumption) ?rar6
       case rah6 => ((intro w hSw; (try dsimp only at hSw); go_simp); try with_reducible rfl)
       try simp only [Act.put, List.setIfInBounds_toArray, List.set_cons_zero, List.set_cons_succ]
       refine wpAnyH_take (i := 7) (oi := { dst := some 61, op := Op.load 35 (Operand.tmp 60), type := 35, pos := "linear.go:182", after := #[{ on := 6, ground := Ground.data }], guard := none }) (v := ?rav7) rfl (by kernel_rfl) (by kernel_rfl) (by kernel_rfl) (fun _ _ _ h => h) (Or.inl ⟨by rfl, ?rah7⟩) (by assumption) ?rar7
       case rah7 => ((intro w hSw; (try dsimp only at hSw); go_simp); try with_reducible rfl)
       try simp only [Act.put, List.setIfInBounds_toArray, List.set_cons_zero, List.set_cons_succ]
       refine wpAnyH_ready (rs := [8]) (by kernel_rfl) (by simp) ?_
       refine AllReadyH.cons (o := { dst := some 62, op := Op.call { callee := Callee.value (Operand.func 48), args := #[Operand.tmp 57, Operand.tmp 61], argTypes := #[35, 35] }, type := 4, pos := "linear.go:182", after := #[{ on := 3, ground := Ground.data }, { on := 7, ground := Ground.data }], guard := none }) rfl (fun K hK => ?_) AllReadyH.nil
       go_simp
       (go_at_call 48; with_reducible refine (HA.out _).mono ?_; rintro e w' ⟨rfl, hbq⟩; have hq9 : Below wr.heap.size wr w' := below_tr hbq (by assumption); clear hbq)
       refine hK.out _ _ (by assumption) (fun hHeld => ?_)
       clear hK K
       try simp only [Act.put, List.setIfInBounds_toArray, List.set_cons_zero, List.set_cons_succ]
       refine wpAnyH_take (i := 9) (oi := { dst := some 63, op := Op.move (Operand.tmp 62), type := 4, pos := "linear.go:182", after := #[{ on := 8, ground := Ground.data }, { on := 8, ground := Ground.chain }], guard := none }) (v := ?rav9) rfl (by kernel_rfl) (by kernel_rfl) (by kernel_rfl) (fun _ _ _ h => h) (Or.inl ⟨by rfl, ?rah9⟩) (by assumption) ?rar9
       case rah9 => ((intro w hSw; (try dsimp only at hSw); go_simp); try with_reducible rfl)
       try simp only [Act.put, List.setIfInBounds_toArray, List.set_cons_zero, List.set_cons_succ]
       refine wpAnyH_take (i := 10) (oi := { dst := some 64, op := Op.move (Operand.tmp 0), type := 32, pos := "linear.go:182", after := #[{ on := 9, ground := Ground.guard }], guard := some (9, false) }) (v := undef) rfl (by kernel_rfl) (by kernel_rfl) (by kernel_rfl) (fun _ _ _ h => h) (Or.inr ⟨by rfl, rfl⟩) (by assumption) ?_
       try simp only [Act.put, List.setIfInBounds_toArray, List.set_cons_zero, List.set_cons_succ]
       refine wpAnyH_take (i := 11) (oi := { dst := some 65, op := Op.move (Operand.tmp 12), type := 3, pos := "linear.go:182", after := #[{ on := 9, ground := Ground.guard }], guard := some (9, false) }) (v := undef) rfl (by kernel_rfl) (by kernel_rfl) (by kernel_rfl) (fun _ _ _ h => h) (Or.inr ⟨by rfl, rfl⟩) (by assumption) ?_
       try simp only [Act.put, List.setIfInBounds_toArray, List.set_cons_zero, List.set_cons_succ]
       refine wpAnyH_take (i := 12) (oi := { dst := some 66, op := Op.indexAddr 32 (Operand.tmp 64) (Operand.tmp 65), type := 0, pos := "linear.go:182", after := #[{ on := 10, ground := Ground.data }, { on := 11, ground := Ground.data }, { on := 9, ground := Ground.guard }], guard := some (9, false) }) (v := undef) rfl (by kernel_rfl) (by kernel_rfl) (by kernel_rfl) (fun _ _ _ h => h) (Or.inr ⟨by rfl, rfl⟩) (by assumption) ?_
       try simp only [Act.put, List.setIfInBounds_toArray, List.set_cons_zero, List.set_cons_succ]
       refine wpAnyH_take (i := 13) (oi := { dst := some 67, op := Op.fieldAddr 35 (Operand.tmp 66) 1, type := 0, pos := "linear.go:182", after := #[{ on := 12, ground := Ground.data }, { on := 9, ground := Ground.guard }], guard := some (9, false) }) (v := undef) rfl (by kernel_rfl) (by kernel_rfl) (by kernel_rfl) (fun _ _ _ h => h) (Or.inr ⟨by rfl, rfl⟩) (by assumption) ?_
       try simp only [Act.put, List.setIfInBounds_toArray, List.set_cons_zero, List.set_cons_succ]
       refine wpAnyH_take (i := 14) (oi := { dst := some 68, op := Op.load 3 (Operand.tmp 67), type := 3, pos := "linear.go:182", after := #[{ on := 13, ground := Ground.data }, { on := 9, ground := Ground.guard }], guard := some (9, false) }) (v := undef) rfl (by kernel_rfl) (by kernel_rfl) (by kernel_rfl) (fun _ _ _ h => h) (Or.inr ⟨by rfl, rfl⟩) (by assumption) ?_
       try simp only [Act.put, List.setIfInBounds_toArray, List.set_cons_zero, List.set_cons_succ]
       refine wpAnyH_take (i := 15) (oi := { dst := some 69, op := Op.binOp BinOp.neq 3 (Operand.tmp 68) (Operand.const (Value.int IntKind.i64 1)) 3, type := 4, pos := "linear.go:182", after := #[{ on := 14, ground := Ground.data }, { on := 9, ground := Ground.guard }], guard := some (9, false) }) (v := undef) rfl (by kernel_rfl) (by kernel_rfl) (by kernel_rfl) (fun _ _ _ h => h) (Or.inr ⟨by rfl, rfl⟩) (by assumption) ?_
       try simp only [Act.put, List.setIfInBounds_toArray, List.set_cons_zero, List.set_cons_succ]
       refine wpAnyH_take (i := 16) (oi := { dst := some 70, op := Op.move (Operand.tmp 69), type := 4, pos := "linear.go:182", after := #[{ on := 15, ground := Ground.data }, { on := 9, ground := Ground.chain }, { on := 9, ground := Ground.guard }], guard := some (9, false) }) (v := undef) rfl (by kernel_rfl) (by kernel_rfl) (by kernel_rfl) (fun _ _ _ h => h) (Or.inr ⟨by rfl, rfl⟩) (by assumption) ?_
       try simp only [Act.put, List.setIfInBounds_toArray, List.set_cons_zero, List.set_cons_succ]
       refine wpAnyH_take (i := 17) (oi := { dst := some 71, op := Op.move (Operand.tmp 0), type := 32, pos := "linear.go:182", after := #[{ on := 16, ground := Ground.guard }], guard := some (16, true) }) (v := undef) rfl (by kernel_rfl) (by kernel_rfl) (by kernel_rfl) (fun _ _ _ h => h) (Or.inr ⟨by rfl, rfl⟩) (by assumption) ?_
       try simp only [Act.put, List.setIfInBounds_toArray, List.set_cons_zero, List.set_cons_succ]
       refine wpAnyH_take (i := 18) (oi := { dst := some 72, op := Op.move (Operand.tmp 12), type := 3, pos := "linear.go:182", after := #[{ on := 16, ground := Ground.guard }], guard := some (16, true) }) (v := undef) rfl (by kernel_rfl) (by kernel_rfl) (by kernel_rfl) (fun _ _ _ h => h) (Or.inr ⟨by rfl, rfl⟩) (by assumption) ?_
       try simp only [Act.put, List.setIfInBounds_toArray, List.set_cons_zero, List.set_cons_succ]
       refine wpAnyH_take (i := 19) (oi := { dst := some 73, op := Op.indexAddr 32 (Operand.tmp 71) (Operand.tmp 72), type := 0, pos := "linear.go:182", after := #[{ on := 17, ground := Ground.data }, { on := 18, ground := Ground.data }, { on := 16, ground := Ground.guard }], guard := some (16, true) }) (v := undef) rfl (by kernel_rfl) (by kernel_rfl) (by kernel_rfl) (fun _ _ _ h => h) (Or.inr ⟨by rfl, rfl⟩) (by assumption) ?_
       try simp only [Act.put, List.setIfInBounds_toArray, List.set_cons_zero, List.set_cons_succ]
       refine wpAnyH_take (i := 20) (oi := { dst := some 74, op := Op.fieldAddr 35 (Operand.tmp 73) 6, type := 0, pos := "linear.go:182", after := #[{ on := 19, ground := Ground.data }, { on := 16, ground := Ground.guard }], guard := some (16, true) }) (v := undef) rfl (by kernel_rfl) (by kernel_rfl) (by kernel_rfl) (fun _ _ _ h => h) (Or.inr ⟨by rfl, rfl⟩) (by assumption) ?_
       try simp only [Act.put, List.setIfInBounds_toArray, List.set_cons_zero, List.set_cons_succ]
       refine wpAnyH_take (i := 21) (oi := { dst := some 75, op := Op.load 2 (Operand.tmp 74), type := 2, pos := "linear.go:182", after := #[{ on := 20, ground := Ground.data }, { on := 16, ground := Ground.guard }], guard := some (16, true) }) (v := undef) rfl (by kernel_rfl) (by kernel_rfl) (by kernel_rfl) (fun _ _ _ h => h) (Or.inr ⟨by rfl, rfl⟩) (by assumption) ?_
       try simp only [Act.put, List.setIfInBounds_toArray, List.set_cons_zero, List.set_cons_succ]
       refine wpAnyH_take (i := 22) (oi := { dst := some 76, op := Op.move (Operand.tmp 0), type := 32, pos := "linear.go:182", after := #[{ on := 16, ground := Ground.guard }], guard := some (16, true) }) (v := undef) rfl (by kernel_rfl) (by kernel_rfl) (by kernel_rfl) (fun _ _ _ h => h) (Or.inr ⟨by rfl, rfl⟩) (by assumption) ?_
       try simp only [Act.put, List.setIfInBounds_toArray, List.set_cons_zero, List.set_cons_succ]
       refine wpAnyH_take (i := 23) (oi := { dst := some 77, op := Op.move (Operand.tmp 2), type := 3, pos := "linear.go:182", after := #[{ on := 16, ground := Ground.guard }], guard := some (16, true) }) (v := undef) rfl (by kernel_rfl) (by kernel_rfl) (by kernel_rfl) (fun _ _ _ h => h) (Or.inr ⟨by rfl, rfl⟩) (by assumption) ?_
       try simp only [Act.put, List.setIfInBounds_toArray, List.set_cons_zero, List.set_cons_succ]
       refine wpAnyH_take (i := 24) (oi := { dst := some 78, op := Op.indexAddr 32 (Operand.tmp 76) (Operand.tmp 77), type := 0, pos := "linear.go:182", after := #[{ on := 22, ground := Ground.data }, { on := 23, ground := Ground.data }, { on := 16, ground := Ground.guard }], guard := some (16, true) }) (v := undef) rfl (by kernel_rfl) (by kernel_rfl) (by kernel_rfl) (fun _ _ _ h => h) (Or.inr ⟨by rfl, rfl⟩) (by assumption) ?_
       try simp only [Act.put, List.setIfInBounds_toArray, List.set_cons_zero, List.set_cons_succ]
       refine wpAnyH_take (i := 25) (oi := { dst := some 79, op := Op.fieldAddr 35 (Operand.tmp 78) 3, type := 0, pos := "linear.go:182", after := #[{ on := 24, ground := Ground.data }, { on := 16, ground := Ground.guard }], guard := some (16, true) }) (v := undef) rfl (by kernel_rfl) (by kernel_rfl) (by kernel_rfl) (fun _ _ _ h => h) (Or.inr ⟨by rfl, rfl⟩) (by assumption) ?_
       try simp only [Act.put, List.setIfInBounds_toArray, List.set_cons_zero, List.set_cons_succ]
       refine wpAnyH_take (i := 26) (oi := { dst := some 80, op := Op.load 2 (Operand.tmp 79), type := 2, pos := "linear.go:182", after := #[{ on := 25, ground := Ground.data }, { on := 16, ground := Ground.guard }], guard := some (16, true) }) (v := undef) rfl (by kernel_rfl) (by kernel_rfl) (by kernel_rfl) (fun _ _ _ h => h) (Or.inr ⟨by rfl, rfl⟩) (by assumption) ?_
       try simp only [Act.put, List.setIfInBounds_toArray, List.set_cons_zero, List.set_cons_succ]
       refine wpAnyH_take (i := 27) (oi := { dst := some 81, op := Op.binOp BinOp.neq 2 (Operand.tmp 75) (Operand.tmp 80) 2, type := 4, pos := "linear.go:182", after := #[{ on := 21, ground := Ground.data }, { on := 26, ground := Ground.data }, { on := 16, ground := Ground.guard }], guard := some (16, true) }) (v := undef) rfl (by kernel_rfl) (by kernel_rfl) (by kernel_rfl) (fun _ _ _ h => h) (Or.inr ⟨by rfl, rfl⟩) (by assumption) ?_
       try simp only [Act.put, List.setIfInBounds_toArray, List.set_cons_zero, List.set_cons_succ]
       refine wpAnyH_take (i := 28) (oi := { dst := some 82, op := Op.pick (Operand.tmp 70) (Operand.tmp 81) (Operand.const (Value.bool false)), type := 4, pos := "linear.go:182", after := #[{ on := 16, ground := Ground.data }, { on := 27, ground := Ground.data }, { on := 9, ground := Ground.guard }], guard := some (9, false) }) (v := undef) rfl (by kernel_rfl) (by kernel_rfl) (by kernel_rfl) (fun _ _ _ h => h) (Or.inr ⟨by rfl, rfl⟩) (by assumption) ?_
       try simp only [Act.put, List.setIfInBounds_toArray, List.set_cons_zero, List.set_cons_succ]
       refine wpAnyH_take (i := 29) (oi := { dst := some 83, op := Op.pick (Operand.tmp 63) (Operand.const (Value.bool true)) (Operand.tmp 82), type := 4, pos := "linear.go:182", after := #[{ on := 9, ground := Ground.data }, { on := 28, ground := Ground.data }], guard := none }) (v := ?rav29) rfl (by kernel_rfl) (by kernel_rfl) (by kernel_rfl) (fun _ _ _ h => h) (Or.inl ⟨by rfl, ?rah29⟩) (by assumption) ?rar29
       case rah29 => ((intro w hSw; (try dsimp only at hSw); go_simp); try with_reducible rfl)
       try simp only [Act.put, List.setIfInBounds_toArray, List.set_cons_zero, List.set_cons_succ]
       refine wpAnyH_done (by kernel_rfl) ?_ _
       go_wp2_with fail
       go_meet
       exact ⟨by rw [HV.out], by assumption⟩
      | false =>
       rw [hA] at HA
       by_cases hk : (cAt l y).kind = 1
       ·have HV : Hid ((!F) = false) := by rw [hF, hA]; simp [hk, Hid]
        rw [hk] at a1 HA
        clear hF hA hk
        refine wp_region_held_drew (S := fun w' => Below wr.heap.size wr w') (by kernel_rfl) ((Below.refl _ _).drew) (fun hHeld => ?_)
        refine wpAnyH_take (i := 0) (oi := { dst := some 54, op := Op.move (Operand.tmp 0), type := 32, pos := "linear.go:182", after := #[], guard := none }) (v := ?rbv0) rfl (by kernel_rfl) (by kernel_rfl) (by kernel_rfl) (fun _ _ _ h => h) (Or.inl ⟨by rfl, ?rbh0⟩) (by assumption) ?rbr0
        case rbh0 => ((intro w hSw; (try dsimp only at hSw); go_simp); try with_reducible rfl)
        try simp only [Act.put, List.setIfInBounds_toArray, List.set_cons_zero, List.set_cons_succ]
        refine wpAnyH_take (i := 1) (oi := { dst := some 55, op := Op.move (Operand.tmp 12), type := 3, pos := "linear.go:182", after := #[], guard := none }) (v := ?rbv1) rfl (by kernel_rfl) (by kernel_rfl) (by kernel_rfl) (fun _ _ _ h => h) (Or.inl ⟨by rfl, ?rbh1⟩) (by assumption) ?rbr1
        case rbh1 => ((intro w hSw; (try dsimp only at hSw); go_simp); try with_reducible rfl)
        try simp only [Act.put, List.setIfInBounds_toArray, List.set_cons_zero, List.set_cons_succ]
        refine wpAnyH_take (i := 2) (oi := { dst := some 56, op := Op.indexAddr 32 (Operand.tmp 54) (Operand.tmp 55), type := 0, pos := "linear.go:182", after := #[{ on := 0, ground := Ground.data }, { on := 1, ground := Ground.data }], guard := none }) (v := ?rbv2) rfl (by kernel_rfl) (by kernel_rfl) (by kernel_rfl) (fun _ _ _ h => h) (Or.inl ⟨by rfl, ?rbh2⟩) (by assumption) ?rbr2
        case rbh2 => ((intro w hSw; (try dsimp only at hSw); go_simp); try with_reducible rfl)
        try simp only [Act.put, List.setIfInBounds_toArray, List.set_cons_zero, List.set_cons_succ]
        refine wpAnyH_take (i := 3) (oi := { dst := some 57, op := Op.load 35 (Operand.tmp 56), type := 35, pos := "linear.go:182", after := #[{ on := 2, ground := Ground.data }], guard := none }) (v := ?rbv3) rfl (by kernel_rfl) (by kernel_rfl) (by kernel_rfl) (fun _ _ _ h => h) (Or.inl ⟨by rfl, ?rbh3⟩) (by assumption) ?rbr3
        case rbh3 => ((intro w hSw; (try dsimp only at hSw); go_simp); try with_reducible rfl)
        try simp only [Act.put, List.setIfInBounds_toArray, List.set_cons_zero, List.set_cons_succ]
        refine wpAnyH_take (i := 4) (oi := { dst := some 58, op := Op.move (Operand.tmp 0), type := 32, pos := "linear.go:182", after := #[], guard := none }) (v := ?rbv4) rfl (by kernel_rfl) (by kernel_rfl) (by kernel_rfl) (fun _ _ _ h => h) (Or.inl ⟨by rfl, ?rbh4⟩) (by assumption) ?rbr4
        case rbh4 => ((intro w hSw; (try dsimp only at hSw); go_simp); try with_reducible rfl)
        try simp only [Act.put, List.setIfInBounds_toArray, List.set_cons_zero, List.set_cons_succ]
        refine wpAnyH_take (i := 5) (oi := { dst := some 59, op := Op.move (Operand.tmp 2), type := 3, pos := "linear.go:182", after := #[], guard := none }) (v := ?rbv5) rfl (by kernel_rfl) (by kernel_rfl) (by kernel_rfl) (fun _ _ _ h => h) (Or.inl ⟨by rfl, ?rbh5⟩) (by assumption) ?rbr5
        case rbh5 => ((intro w hSw; (try dsimp only at hSw); go_simp); try with_reducible rfl)
        try simp only [Act.put, List.setIfInBounds_toArray, List.set_cons_zero, List.set_cons_succ]
        refine wpAnyH_take (i := 6) (oi := { dst := some 60, op := Op.indexAddr 32 (Operand.tmp 58) (Operand.tmp 59), type := 0, pos := "linear.go:182", after := #[{ on := 4, ground := Ground.data }, { on := 5, ground := Ground.data }], guard := none }) (v := ?rbv6) rfl (by kernel_rfl) (by kernel_rfl) (by kernel_rfl) (fun _ _ _ h => h) (Or.inl ⟨by rfl, ?rbh6⟩) (by assumption) ?rbr6
        case rbh6 => ((intro w hSw; (try dsimp only at hSw); go_simp); try with_reducible rfl)
        try simp only [Act.put, List.setIfInBounds_toArray, List.set_cons_zero, List.set_cons_succ]
        refine wpAnyH_take (i := 7) (oi := { dst := some 61, op := Op.load 35 (Operand.tmp 60), type := 35, pos := "linear.go:182", after := #[{ on := 6, ground := Ground.data }], guard := none }) (v := ?rbv7) rfl (by kernel_rfl) (by kernel_rfl) (by kernel_rfl) (fun _ _ _ h => h) (Or.inl ⟨by rfl, ?rbh7⟩) (by assumption) ?rbr7
        case rbh7 => ((intro w hSw; (try dsimp only at hSw); go_simp); try with_reducible rfl)
        try simp only [Act.put, List.setIfInBounds_toArray, List.set_cons_zero, List.set_cons_succ]
        refine wpAnyH_ready (rs := [8]) (by kernel_rfl) (by simp) ?_
        refine AllReadyH.cons (o := { dst := some 62, op := Op.call { callee := Callee.value (Operand.func 48), args := #[Operand.tmp 57, Operand.tmp 61], argTypes := #[35, 35] }, type := 4, pos := "linear.go:182", after := #[{ on := 3, ground := Ground.data }, { on := 7, ground := Ground.data }], guard := none }) rfl (fun K hK => ?_) AllReadyH.nil
        go_simp
        (go_at_call 48; with_reducible refine (HA.out _).mono ?_; rintro e w' ⟨rfl, hbq⟩; have hq9 : Below wr.heap.size wr w' := below_tr hbq (by assumption); clear hbq)
        refine hK.out _ _ (by assumption) (fun hHeld => ?_)
        clear hK K
        try simp only [Act.put, List.setIfInBounds_toArray, List.set_cons_zero, List.set_cons_succ]
        refine wpAnyH_take (i := 9) (oi := { dst := some 63, op := Op.move (Operand.tmp 62), type := 4, pos := "linear.go:182", after := #[{ on := 8, ground := Ground.data }, { on := 8, ground := Ground.chain }], guard := none }) (v := ?rbv9) rfl (by kernel_rfl) (by kernel_rfl) (by kernel_rfl) (fun _ _ _ h => h) (Or.inl ⟨by rfl, ?rbh9⟩) (by assumption) ?rbr9
        case rbh9 => ((intro w hSw; (try dsimp only at hSw); go_simp); try with_reducible rfl)
        try simp only [Act.put, List.setIfInBounds_toArray, List.set_cons_zero, List.set_cons_succ]
        refine wpAnyH_take (i := 10) (oi := { dst := some 64, op := Op.move (Operand.tmp 0), type := 32, pos := "linear.go:182", after := #[{ on := 9, ground := Ground.guard }], guard := some (9, false) }) (v := ?rbv10) rfl (by kernel_rfl) (by kernel_rfl) (by kernel_rfl) (fun _ _ _ h => h) (Or.inl ⟨by rfl, ?rbh10⟩) (by assumption) ?rbr10
        case rbh10 => ((intro w hSw; (try dsimp only at hSw); go_simp); try with_reducible rfl)
        try simp only [Act.put, List.setIfInBounds_toArray, List.set_cons_zero, List.set_cons_succ]
        refine wpAnyH_take (i := 11) (oi := { dst := some 65, op := Op.move (Operand.tmp 12), type := 3, pos := "linear.go:182", after := #[{ on := 9, ground := Ground.guard }], guard := some (9, false) }) (v := ?rbv11) rfl (by kernel_rfl) (by kernel_rfl) (by kernel_rfl) (fun _ _ _ h => h) (Or.inl ⟨by rfl, ?rbh11⟩) (by assumption) ?rbr11
        case rbh11 => ((intro w hSw; (try dsimp only at hSw); go_simp); try with_reducible rfl)
        try simp only [Act.put, List.setIfInBounds_toArray, List.set_cons_zero, List.set_cons_succ]
        refine wpAnyH_take (i := 12) (oi := { dst := some 66, op := Op.indexAddr 32 (Operand.tmp 64) (Operand.tmp 65), type := 0, pos := "linear.go:182", after := #[{ on := 10, ground := Ground.data }, { on := 11, ground := Ground.data }, { on := 9, ground := Ground.guard }], guard := some (9, false) }) (v := ?rbv12) rfl (by kernel_rfl) (by kernel_rfl) (by kernel_rfl) (fun _ _ _ h => h) (Or.inl ⟨by rfl, ?rbh12⟩) (by assumption) ?rbr12
        case rbh12 => ((intro w hSw; (try dsimp only at hSw); go_simp); try with_reducible rfl)
        try simp only [Act.put, List.setIfInBounds_toArray, List.set_cons_zero, List.set_cons_succ]
        refine wpAnyH_take (i := 13) (oi := { dst := some 67, op := Op.fieldAddr 35 (Operand.tmp 66) 1, type := 0, pos := "linear.go:182", after := #[{ on := 12, ground := Ground.data }, { on := 9, ground := Ground.guard }], guard := some (9, false) }) (v := ?rbv13) rfl (by kernel_rfl) (by kernel_rfl) (by kernel_rfl) (fun _ _ _ h => h) (Or.inl ⟨by rfl, ?rbh13⟩) (by assumption) ?rbr13
        case rbh13 => ((intro w hSw; (try dsimp only at hSw); go_simp); try with_reducible rfl)
        try simp only [Act.put, List.setIfInBounds_toArray, List.set_cons_zero, List.set_cons_succ]
        refine wpAnyH_take (i := 14) (oi := { dst := some 68, op := Op.load 3 (Operand.tmp 67), type := 3, pos := "linear.go:182", after := #[{ on := 13, ground := Ground.data }, { on := 9, ground := Ground.guard }], guard := some (9, false) }) (v := ?rbv14) rfl (by kernel_rfl) (by kernel_rfl) (by kernel_rfl) (fun _ _ _ h => h) (Or.inl ⟨by rfl, ?rbh14⟩) (by assumption) ?rbr14
        case rbh14 => ((intro w hSw; (try dsimp only at hSw); go_simp); try with_reducible rfl)
        try simp only [Act.put, List.setIfInBounds_toArray, List.set_cons_zero, List.set_cons_succ]
        refine wpAnyH_take (i := 15) (oi := { dst := some 69, op := Op.binOp BinOp.neq 3 (Operand.tmp 68) (Operand.const (Value.int IntKind.i64 1)) 3, type := 4, pos := "linear.go:182", after := #[{ on := 14, ground := Ground.data }, { on := 9, ground := Ground.guard }], guard := some (9, false) }) (v := ?rbv15) rfl (by kernel_rfl) (by kernel_rfl) (by kernel_rfl) (fun _ _ _ h => h) (Or.inl ⟨by rfl, ?rbh15⟩) (by assumption) ?rbr15
        case rbh15 => ((intro w hSw; (try dsimp only at hSw); go_simp); try with_reducible rfl)
        try simp only [Act.put, List.setIfInBounds_toArray, List.set_cons_zero, List.set_cons_succ]
        refine wpAnyH_take (i := 16) (oi := { dst := some 70, op := Op.move (Operand.tmp 69), type := 4, pos := "linear.go:182", after := #[{ on := 15, ground := Ground.data }, { on := 9, ground := Ground.chain }, { on := 9, ground := Ground.guard }], guard := some (9, false) }) (v := ?rbv16) rfl (by kernel_rfl) (by kernel_rfl) (by kernel_rfl) (fun _ _ _ h => h) (Or.inl ⟨by rfl, ?rbh16⟩) (by assumption) ?rbr16
        case rbh16 => ((intro w hSw; (try dsimp only at hSw); go_simp); try with_reducible rfl)
        try simp only [Act.put, List.setIfInBounds_toArray, List.set_cons_zero, List.set_cons_succ]
        refine wpAnyH_take (i := 17) (oi := { dst := some 71, op := Op.move (Operand.tmp 0), type := 32, pos := "linear.go:182", after := #[{ on := 16, ground := Ground.guard }], guard := some (16, true) }) (v := undef) rfl (by kernel_rfl) (by kernel_rfl) (by kernel_rfl) (fun _ _ _ h => h) (Or.inr ⟨by rfl, rfl⟩) (by assumption) ?_
        try simp only [Act.put, List.setIfInBounds_toArray, List.set_cons_zero, List.set_cons_succ]
        refine wpAnyH_take (i := 18) (oi := { dst := some 72, op := Op.move (Operand.tmp 12), type := 3, pos := "linear.go:182", after := #[{ on := 16, ground := Ground.guard }], guard := some (16, true) }) (v := undef) rfl (by kernel_rfl) (by kernel_rfl) (by kernel_rfl) (fun _ _ _ h => h) (Or.inr ⟨by rfl, rfl⟩) (by assumption) ?_
        try simp only [Act.put, List.setIfInBounds_toArray, List.set_cons_zero, List.set_cons_succ]
        refine wpAnyH_take (i := 19) (oi := { dst := some 73, op := Op.indexAddr 32 (Operand.tmp 71) (Operand.tmp 72), type := 0, pos := "linear.go:182", after := #[{ on := 17, ground := Ground.data }, { on := 18, ground := Ground.data }, { on := 16, ground := Ground.guard }], guard := some (16, true) }) (v := undef) rfl (by kernel_rfl) (by kernel_rfl) (by kernel_rfl) (fun _ _ _ h => h) (Or.inr ⟨by rfl, rfl⟩) (by assumption) ?_
        try simp only [Act.put, List.setIfInBounds_toArray, List.set_cons_zero, List.set_cons_succ]
        refine wpAnyH_take (i := 20) (oi := { dst := some 74, op := Op.fieldAddr 35 (Operand.tmp 73) 6, type := 0, pos := "linear.go:182", after := #[{ on := 19, ground := Ground.data }, { on := 16, ground := Ground.guard }], guard := some (16, true) }) (v := undef) rfl (by kernel_rfl) (by kernel_rfl) (by kernel_rfl) (fun _ _ _ h => h) (Or.inr ⟨by rfl, rfl⟩) (by assumption) ?_
        try simp only [Act.put, List.setIfInBounds_toArray, List.set_cons_zero, List.set_cons_succ]
        refine wpAnyH_take (i := 21) (oi := { dst := some 75, op := Op.load 2 (Operand.tmp 74), type := 2, pos := "linear.go:182", after := #[{ on := 20, ground := Ground.data }, { on := 16, ground := Ground.guard }], guard := some (16, true) }) (v := undef) rfl (by kernel_rfl) (by kernel_rfl) (by kernel_rfl) (fun _ _ _ h => h) (Or.inr ⟨by rfl, rfl⟩) (by assumption) ?_
        try simp only [Act.put, List.setIfInBounds_toArray, List.set_cons_zero, List.set_cons_succ]
        refine wpAnyH_take (i := 22) (oi := { dst := some 76, op := Op.move (Operand.tmp 0), type := 32, pos := "linear.go:182", after := #[{ on := 16, ground := Ground.guard }], guard := some (16, true) }) (v := undef) rfl (by kernel_rfl) (by kernel_rfl) (by kernel_rfl) (fun _ _ _ h => h) (Or.inr ⟨by rfl, rfl⟩) (by assumption) ?_
        try simp only [Act.put, List.setIfInBounds_toArray, List.set_cons_zero, List.set_cons_succ]
        refine wpAnyH_take (i := 23) (oi := { dst := some 77, op := Op.move (Operand.tmp 2), type := 3, pos := "linear.go:182", after := #[{ on := 16, ground := Ground.guard }], guard := some (16, true) }) (v := undef) rfl (by kernel_rfl) (by kernel_rfl) (by kernel_rfl) (fun _ _ _ h => h) (Or.inr ⟨by rfl, rfl⟩) (by assumption) ?_
        try simp only [Act.put, List.setIfInBounds_toArray, List.set_cons_zero, List.set_cons_succ]
        refine wpAnyH_take (i := 24) (oi := { dst := some 78, op := Op.indexAddr 32 (Operand.tmp 76) (Operand.tmp 77), type := 0, pos := "linear.go:182", after := #[{ on := 22, ground := Ground.data }, { on := 23, ground := Ground.data }, { on := 16, ground := Ground.guard }], guard := some (16, true) }) (v := undef) rfl (by kernel_rfl) (by kernel_rfl) (by kernel_rfl) (fun _ _ _ h => h) (Or.inr ⟨by rfl, rfl⟩) (by assumption) ?_
        try simp only [Act.put, List.setIfInBounds_toArray, List.set_cons_zero, List.set_cons_succ]
        refine wpAnyH_take (i := 25) (oi := { dst := some 79, op := Op.fieldAddr 35 (Operand.tmp 78) 3, type := 0, pos := "linear.go:182", after := #[{ on := 24, ground := Ground.data }, { on := 16, ground := Ground.guard }], guard := some (16, true) }) (v := undef) rfl (by kernel_rfl) (by kernel_rfl) (by kernel_rfl) (fun _ _ _ h => h) (Or.inr ⟨by rfl, rfl⟩) (by assumption) ?_
        try simp only [Act.put, List.setIfInBounds_toArray, List.set_cons_zero, List.set_cons_succ]
        refine wpAnyH_take (i := 26) (oi := { dst := some 80, op := Op.load 2 (Operand.tmp 79), type := 2, pos := "linear.go:182", after := #[{ on := 25, ground := Ground.data }, { on := 16, ground := Ground.guard }], guard := some (16, true) }) (v := undef) rfl (by kernel_rfl) (by kernel_rfl) (by kernel_rfl) (fun _ _ _ h => h) (Or.inr ⟨by rfl, rfl⟩) (by assumption) ?_
        try simp only [Act.put, List.setIfInBounds_toArray, List.set_cons_zero, List.set_cons_succ]
        refine wpAnyH_take (i := 27) (oi := { dst := some 81, op := Op.binOp BinOp.neq 2 (Operand.tmp 75) (Operand.tmp 80) 2, type := 4, pos := "linear.go:182", after := #[{ on := 21, ground := Ground.data }, { on := 26, ground := Ground.data }, { on := 16, ground := Ground.guard }], guard := some (16, true) }) (v := undef) rfl (by kernel_rfl) (by kernel_rfl) (by kernel_rfl) (fun _ _ _ h => h) (Or.inr ⟨by rfl, rfl⟩) (by assumption) ?_
        try simp only [Act.put, List.setIfInBounds_toArray, List.set_cons_zero, List.set_cons_succ]
        refine wpAnyH_take (i := 28) (oi := { dst := some 82, op := Op.pick (Operand.tmp 70) (Operand.tmp 81) (Operand.const (Value.bool false)), type := 4, pos := "linear.go:182", after := #[{ on := 16, ground := Ground.data }, { on := 27, ground := Ground.data }, { on := 9, ground := Ground.guard }], guard := some (9, false) }) (v := ?rbv28) rfl (by kernel_rfl) (by kernel_rfl) (by kernel_rfl) (fun _ _ _ h => h) (Or.inl ⟨by rfl, ?rbh28⟩) (by assumption) ?rbr28
        case rbh28 => ((intro w hSw; (try dsimp only at hSw); go_simp); try with_reducible rfl)
        try simp only [Act.put, List.setIfInBounds_toArray, List.set_cons_zero, List.set_cons_succ]
        refine wpAnyH_take (i := 29) (oi := { dst := some 83, op := Op.pick (Operand.tmp 63) (Operand.const (Value.bool true)) (Operand.tmp 82), type := 4, pos := "linear.go:182", after := #[{ on := 9, ground := Ground.data }, { on := 28, ground := Ground.data }], guard := none }) (v := ?rbv29) rfl (by kernel_rfl) (by kernel_rfl) (by kernel_rfl) (fun _ _ _ h => h) (Or.inl ⟨by rfl, ?rbh29⟩) (by assumption) ?rbr29
        case rbh29 => ((intro w hSw; (try dsimp only at hSw); go_simp); try with_reducible rfl)
        try simp only [Act.put, List.setIfInBounds_toArray, List.set_cons_zero, List.set_cons_succ]
        refine wpAnyH_done (by kernel_rfl) ?_ _
        go_wp2_with fail
        go_meet
        exact ⟨by rw [HV.out], by assumption⟩
       ·have hk1 : ((cAt l y).kind == 1) = false := by simpa using hk
        have hk2 : ((cAt l y).kind != 1) = true := by simpa using hk
        by_cases hv : (cAt l y).ans = (cAt l q).value
        ·have HV : Hid ((!F) = false) := by rw [hF, hA]; simp [hv, Hid]
         rw [hv] at a6 HA
         clear hF hA hk hv
         refine wp_region_held_drew (S := fun w' => Below wr.heap.size wr w') (by kernel_rfl) ((Below.refl _ _).drew) (fun hHeld => ?_)
         refine wpAnyH_take (i := 0) (oi := { dst := some 54, op := Op.move (Operand.tmp 0), type := 32, pos := "linear.go:182", after := #[], guard := none }) (v := ?rcv0) rfl (by kernel_rfl) (by kernel_rfl) (by kernel_rfl) (fun _ _ _ h => h) (Or.inl ⟨by rfl, ?rch0⟩) (by assumption) ?rcr0
         case rch0 => ((intro w hSw; (try dsimp only at hSw); go_simp); try with_reducible rfl)
         try simp only [Act.put, List.setIfInBounds_toArray, List.set_cons_zero, List.set_cons_succ]
         refine wpAnyH_take (i := 1) (oi := { dst := some 55, op := Op.move (Operand.tmp 12), type := 3, pos := "linear.go:182", after := #[], guard := none }) (v := ?rcv1) rfl (by kernel_rfl) (by kernel_rfl) (by kernel_rfl) (fun _ _ _ h => h) (Or.inl ⟨by rfl, ?rch1⟩) (by assumption) ?rcr1
         case rch1 => ((intro w hSw; (try dsimp only at hSw); go_simp); try with_reducible rfl)
         try simp only [Act.put, List.setIfInBounds_toArray, List.set_cons_zero, List.set_cons_succ]
         refine wpAnyH_take (i := 2) (oi := { dst := some 56, op := Op.indexAddr 32 (Operand.tmp 54) (Operand.tmp 55), type := 0, pos := "linear.go:182", after := #[{ on := 0, ground := Ground.data }, { on := 1, ground := Ground.data }], guard := none }) (v := ?rcv2) rfl (by kernel_rfl) (by kernel_rfl) (by kernel_rfl) (fun _ _ _ h => h) (Or.inl ⟨by rfl, ?rch2⟩) (by assumption) ?rcr2
         case rch2 => ((intro w hSw; (try dsimp only at hSw); go_simp); try with_reducible rfl)
         try simp only [Act.put, List.setIfInBounds_toArray, List.set_cons_zero, List.set_cons_succ]
         refine wpAnyH_take (i := 3) (oi := { dst := some 57, op := Op.load 35 (Operand.tmp 56), type := 35, pos := "linear.go:182", after := #[{ on := 2, ground := Ground.data }], guard := none }) (v := ?rcv3) rfl (by kernel_rfl) (by kernel_rfl) (by kernel_rfl) (fun _ _ _ h => h) (Or.inl ⟨by rfl, ?rch3⟩) (by assumption) ?rcr3
         case rch3 => ((intro w hSw; (try dsimp only at hSw); go_simp); try with_reducible rfl)
         try simp only [Act.put, List.setIfInBounds_toArray, List.set_cons_zero, List.set_cons_succ]
         refine wpAnyH_take (i := 4) (oi := { dst := some 58, op := Op.move (Operand.tmp 0), type := 32, pos := "linear.go:182", after := #[], guard := none }) (v := ?rcv4) rfl (by kernel_rfl) (by kernel_rfl) (by kernel_rfl) (fun _ _ _ h => h) (Or.inl ⟨by rfl, ?rch4⟩) (by assumption) ?rcr4
         case rch4 => ((intro w hSw; (try dsimp only at hSw); go_simp); try with_reducible rfl)
         try simp only [Act.put, List.setIfInBounds_toArray, List.set_cons_zero, List.set_cons_succ]
         refine wpAnyH_take (i := 5) (oi := { dst := some 59, op := Op.move (Operand.tmp 2), type := 3, pos := "linear.go:182", after := #[], guard := none }) (v := ?rcv5) rfl (by kernel_rfl) (by kernel_rfl) (by kernel_rfl) (fun _ _ _ h => h) (Or.inl ⟨by rfl, ?rch5⟩) (by assumption) ?rcr5
         case rch5 => ((intro w hSw; (try dsimp only at hSw); go_simp); try with_reducible rfl)
         try simp only [Act.put, List.setIfInBounds_toArray, List.set_cons_zero, List.set_cons_succ]
         refine wpAnyH_take (i := 6) (oi := { dst := some 60, op := Op.indexAddr 32 (Operand.tmp 58) (Operand.tmp 59), type := 0, pos := "linear.go:182", after := #[{ on := 4, ground := Ground.data }, { on := 5, ground := Ground.data }], guard := none }) (v := ?rcv6) rfl (by kernel_rfl) (by kernel_rfl) (by kernel_rfl) (fun _ _ _ h => h) (Or.inl ⟨by rfl, ?rch6⟩) (by assumption) ?rcr6
         case rch6 => ((intro w hSw; (try dsimp only at hSw); go_simp); try with_reducible rfl)
         try simp only [Act.put, List.setIfInBounds_toArray, List.set_cons_zero, List.set_cons_succ]
         refine wpAnyH_take (i := 7) (oi := { dst := some 61, op := Op.load 35 (Operand.tmp 60), type := 35, pos := "linear.go:182", after := #[{ on := 6, ground := Ground.data }], guard := none }) (v := ?rcv7) rfl (by kernel_rfl) (by kernel_rfl) (by kernel_rfl) (fun _ _ _ h => h) (Or.inl ⟨by rfl, ?rch7⟩) (by assumption) ?rcr7
         case rch7 => ((intro w hSw; (try dsimp only at hSw); go_simp); try with_reducible rfl)
         try simp only [Act.put, List.setIfInBounds_toArray, List.set_cons_zero, List.set_cons_succ]
         refine wpAnyH_ready (rs := [8]) (by kernel_rfl) (by simp) ?_
         refine AllReadyH.cons (o := { dst := some 62, op := Op.call { callee := Callee.value (Operand.func 48), args := #[Operand.tmp 57, Operand.tmp 61], argTypes := #[35, 35] }, type := 4, pos := "linear.go:182", after := #[{ on := 3, ground := Ground.data }, { on := 7, ground := Ground.data }], guard := none }) rfl (fun K hK => ?_) AllReadyH.nil
         go_simp
         (go_at_call 48; with_reducible refine (HA.out _).mono ?_; rintro e w' ⟨rfl, hbq⟩; have hq9 : Below wr.heap.size wr w' := below_tr hbq (by assumption); clear hbq)
         refine hK.out _ _ (by assumption) (fun hHeld => ?_)
         clear hK K
         try simp only [Act.put, List.setIfInBounds_toArray, List.set_cons_zero, List.set_cons_succ]
         refine wpAnyH_take (i := 9) (oi := { dst := some 63, op := Op.move (Operand.tmp 62), type := 4, pos := "linear.go:182", after := #[{ on := 8, ground := Ground.data }, { on := 8, ground := Ground.chain }], guard := none }) (v := ?rcv9) rfl (by kernel_rfl) (by kernel_rfl) (by kernel_rfl) (fun _ _ _ h => h) (Or.inl ⟨by rfl, ?rch9⟩) (by assumption) ?rcr9
         case rch9 => ((intro w hSw; (try dsimp only at hSw); go_simp); try with_reducible rfl)
         try simp only [Act.put, List.setIfInBounds_toArray, List.set_cons_zero, List.set_cons_succ]
         refine wpAnyH_take (i := 10) (oi := { dst := some 64, op := Op.move (Operand.tmp 0), type := 32, pos := "linear.go:182", after := #[{ on := 9, ground := Ground.guard }], guard := some (9, false) }) (v := ?rcv10) rfl (by kernel_rfl) (by kernel_rfl) (by kernel_rfl) (fun _ _ _ h => h) (Or.inl ⟨by rfl, ?rch10⟩) (by assumption) ?rcr10
         case rch10 => ((intro w hSw; (try dsimp only at hSw); go_simp); try with_reducible rfl)
         try simp only [Act.put, List.setIfInBounds_toArray, List.set_cons_zero, List.set_cons_succ]
         refine wpAnyH_take (i := 11) (oi := { dst := some 65, op := Op.move (Operand.tmp 12), type := 3, pos := "linear.go:182", after := #[{ on := 9, ground := Ground.guard }], guard := some (9, false) }) (v := ?rcv11) rfl (by kernel_rfl) (by kernel_rfl) (by kernel_rfl) (fun _ _ _ h => h) (Or.inl ⟨by rfl, ?rch11⟩) (by assumption) ?rcr11
         case rch11 => ((intro w hSw; (try dsimp only at hSw); go_simp); try with_reducible rfl)
         try simp only [Act.put, List.setIfInBounds_toArray, List.set_cons_zero, List.set_cons_succ]
         refine wpAnyH_take (i := 12) (oi := { dst := some 66, op := Op.indexAddr 32 (Operand.tmp 64) (Operand.tmp 65), type := 0, pos := "linear.go:182", after := #[{ on := 10, ground := Ground.data }, { on := 11, ground := Ground.data }, { on := 9, ground := Ground.guard }], guard := some (9, false) }) (v := ?rcv12) rfl (by kernel_rfl) (by kernel_rfl) (by kernel_rfl) (fun _ _ _ h => h) (Or.inl ⟨by rfl, ?rch12⟩) (by assumption) ?rcr12
         case rch12 => ((intro w hSw; (try dsimp only at hSw); go_simp); try with_reducible rfl)
         try simp only [Act.put, List.setIfInBounds_toArray, List.set_cons_zero, List.set_cons_succ]
         refine wpAnyH_take (i := 13) (oi := { dst := some 67, op := Op.fieldAddr 35 (Operand.tmp 66) 1, type := 0, pos := "linear.go:182", after := #[{ on := 12, ground := Ground.data }, { on := 9, ground := Ground.guard }], guard := some (9, false) }) (v := ?rcv13) rfl (by kernel_rfl) (by kernel_rfl) (by kernel_rfl) (fun _ _ _ h => h) (Or.inl ⟨by rfl, ?rch13⟩) (by assumption) ?rcr13
         case rch13 => ((intro w hSw; (try dsimp only at hSw); go_simp); try with_reducible rfl)
         try simp only [Act.put, List.setIfInBounds_toArray, List.set_cons_zero, List.set_cons_succ]
         refine wpAnyH_take (i := 14) (oi := { dst := some 68, op := Op.load 3 (Operand.tmp 67), type := 3, pos := "linear.go:182", after := #[{ on := 13, ground := Ground.data }, { on := 9, ground := Ground.guard }], guard := some (9, false) }) (v := ?rcv14) rfl (by kernel_rfl) (by kernel_rfl) (by kernel_rfl) (fun _ _ _ h => h) (Or.inl ⟨by rfl, ?rch14⟩) (by assumption) ?rcr14
         case rch14 => ((intro w hSw; (try dsimp only at hSw); go_simp); try with_reducible rfl)
         try simp only [Act.put, List.setIfInBounds_toArray, List.set_cons_zero, List.set_cons_succ]
         refine wpAnyH_take (i := 15) (oi := { dst := some 69, op := Op.binOp BinOp.neq 3 (Operand.tmp 68) (Operand.const (Value.int IntKind.i64 1)) 3, type := 4, pos := "linear.go:182", after := #[{ on := 14, ground := Ground.data }, { on := 9, ground := Ground.guard }], guard := some (9, false) }) (v := ?rcv15) rfl (by kernel_rfl) (by kernel_rfl) (by kernel_rfl) (fun _ _ _ h => h) (Or.inl ⟨by rfl, ?rch15⟩) (by assumption) ?rcr15
         case rch15 => ((intro w hSw; (try dsimp only at hSw); go_simp); try with_reducible rfl)
         try simp only [Act.put, List.setIfInBounds_toArray, List.set_cons_zero, List.set_cons_succ]
         refine wpAnyH_take (i := 16) (oi := { dst := some 70, op := Op.move (Operand.tmp 69), type := 4, pos := "linear.go:182", after := #[{ on := 15, ground := Ground.data }, { on := 9, ground := Ground.chain }, { on := 9, ground := Ground.guard }], guard := some (9, false) }) (v := ?rcv16) rfl (by kernel_rfl) (by kernel_rfl) (by kernel_rfl) (fun _ _ _ h => h) (Or.inl ⟨by rfl, ?rch16⟩) (by assumption) ?rcr16
         case rch16 => ((intro w hSw; (try dsimp only at hSw); go_simp); try with_reducible rfl)
         try simp only [Act.put, List.setIfInBounds_toArray, List.set_cons_zero, List.set_cons_succ]
         refine wpAnyH_take (i := 17) (oi := { dst := some 71, op := Op.move (Operand.tmp 0), type := 32, pos := "linear.go:182", after := #[{ on := 16, ground := Ground.guard }], guard := some (16, true) }) (v := ?rcv17) rfl (by kernel_rfl) (by kernel_rfl) (by kernel_rfl) (fun _ _ _ h => h) (Or.inl ⟨by rfl, ?rch17⟩) (by assumption) ?rcr17
         case rch17 => ((intro w hSw; (try dsimp only at hSw); go_simp); try with_reducible rfl)
         try simp only [Act.put, List.setIfInBounds_toArray, List.set_cons_zero, List.set_cons_succ]
         refine wpAnyH_take (i := 18) (oi := { dst := some 72, op := Op.move (Operand.tmp 12), type := 3, pos := "linear.go:182", after := #[{ on := 16, ground := Ground.guard }], guard := some (16, true) }) (v := ?rcv18) rfl (by kernel_rfl) (by kernel_rfl) (by kernel_rfl) (fun _ _ _ h => h) (Or.inl ⟨by rfl, ?rch18⟩) (by assumption) ?rcr18
         case rch18 => ((intro w hSw; (try dsimp only at hSw); go_simp); try with_reducible rfl)
         try simp only [Act.put, List.setIfInBounds_toArray, List.set_cons_zero, List.set_cons_succ]
         refine wpAnyH_take (i := 19) (oi := { dst := some 73, op := Op.indexAddr 32 (Operand.tmp 71) (Operand.tmp 72), type := 0, pos := "linear.go:182", after := #[{ on := 17, ground := Ground.data }, { on := 18, ground := Ground.data }, { on := 16, ground := Ground.guard }], guard := some (16, true) }) (v := ?rcv19) rfl (by kernel_rfl) (by kernel_rfl) (by kernel_rfl) (fun _ _ _ h => h) (Or.inl ⟨by rfl, ?rch19⟩) (by assumption) ?rcr19
         case rch19 => ((intro w hSw; (try dsimp only at hSw); go_simp); try with_reducible rfl)
         try simp only [Act.put, List.setIfInBounds_toArray, List.set_cons_zero, List.set_cons_succ]
         refine wpAnyH_take (i := 20) (oi := { dst := some 74, op := Op.fieldAddr 35 (Operand.tmp 73) 6, type := 0, pos := "linear.go:182", after := #[{ on := 19, ground := Ground.data }, { on := 16, ground := Ground.guard }], guard := some (16, true) }) (v := ?rcv20) rfl (by kernel_rfl) (by kernel_rfl) (by kernel_rfl) (fun _ _ _ h => h) (Or.inl ⟨by rfl, ?rch20⟩) (by assumption) ?rcr20
         case rch20 => ((intro w hSw; (try dsimp only at hSw); go_simp); try with_reducible rfl)
         try simp only [Act.put, List.setIfInBounds_toArray, List.set_cons_zero, List.set_cons_succ]
         refine wpAnyH_take (i := 21) (oi := { dst := some 75, op := Op.load 2 (Operand.tmp 74), type := 2, pos := "linear.go:182", after := #[{ on := 20, ground := Ground.data }, { on := 16, ground := Ground.guard }], guard := some (16, true) }) (v := ?rcv21) rfl (by kernel_rfl) (by kernel_rfl) (by kernel_rfl) (fun _ _ _ h => h) (Or.inl ⟨by rfl, ?rch21⟩) (by assumption) ?rcr21
         case rch21 => ((intro w hSw; (try dsimp only at hSw); go_simp); try with_reducible rfl)
         try simp only [Act.put, List.setIfInBounds_toArray, List.set_cons_zero, List.set_cons_succ]
         refine wpAnyH_take (i := 22) (oi := { dst := some 76, op := Op.move (Operand.tmp 0), type := 32, pos := "linear.go:182", after := #[{ on := 16, ground := Ground.guard }], guard := some (16, true) }) (v := ?rcv22) rfl (by kernel_rfl) (by kernel_rfl) (by kernel_rfl) (fun _ _ _ h => h) (Or.inl ⟨by rfl, ?rch22⟩) (by assumption) ?rcr22
         case rch22 => ((intro w hSw; (try dsimp only at hSw); go_simp); try with_reducible rfl)
         try simp only [Act.put, List.setIfInBounds_toArray, List.set_cons_zero, List.set_cons_succ]
         refine wpAnyH_take (i := 23) (oi := { dst := some 77, op := Op.move (Operand.tmp 2), type := 3, pos := "linear.go:182", after := #[{ on := 16, ground := Ground.guard }], guard := some (16, true) }) (v := ?rcv23) rfl (by kernel_rfl) (by kernel_rfl) (by kernel_rfl) (fun _ _ _ h => h) (Or.inl ⟨by rfl, ?rch23⟩) (by assumption) ?rcr23
         case rch23 => ((intro w hSw; (try dsimp only at hSw); go_simp); try with_reducible rfl)
         try simp only [Act.put, List.setIfInBounds_toArray, List.set_cons_zero, List.set_cons_succ]
         refine wpAnyH_take (i := 24) (oi := { dst := some 78, op := Op.indexAddr 32 (Operand.tmp 76) (Operand.tmp 77), type := 0, pos := "linear.go:182", after := #[{ on := 22, ground := Ground.data }, { on := 23, ground := Ground.data }, { on := 16, ground := Ground.guard }], guard := some (16, true) }) (v := ?rcv24) rfl (by kernel_rfl) (by kernel_rfl) (by kernel_rfl) (fun _ _ _ h => h) (Or.inl ⟨by rfl, ?rch24⟩) (by assumption) ?rcr24
         case rch24 => ((intro w hSw; (try dsimp only at hSw); go_simp); try with_reducible rfl)
         try simp only [Act.put, List.setIfInBounds_toArray, List.set_cons_zero, List.set_cons_succ]
         refine wpAnyH_take (i := 25) (oi := { dst := some 79, op := Op.fieldAddr 35 (Operand.tmp 78) 3, type := 0, pos := "linear.go:182", after := #[{ on := 24, ground := Ground.data }, { on := 16, ground := Ground.guard }], guard := some (16, true) }) (v := ?rcv25) rfl (by kernel_rfl) (by kernel_rfl) (by kernel_rfl) (fun _ _ _ h => h) (Or.inl ⟨by rfl, ?rch25⟩) (by assumption) ?rcr25
         case rch25 => ((intro w hSw; (try dsimp only at hSw); go_simp); try with_reducible rfl)
         try simp only [Act.put, List.setIfInBounds_toArray, List.set_cons_zero, List.set_cons_succ]
         refine wpAnyH_take (i := 26) (oi := { dst := some 80, op := Op.load 2 (Operand.tmp 79), type := 2, pos := "linear.go:182", after := #[{ on := 25, ground := Ground.data }, { on := 16, ground := Ground.guard }], guard := some (16, true) }) (v := ?rcv26) rfl (by kernel_rfl) (by kernel_rfl) (by kernel_rfl) (fun _ _ _ h => h) (Or.inl ⟨by rfl, ?rch26⟩) (by assumption) ?rcr26
         case rch26 => ((intro w hSw; (try dsimp only at hSw); go_simp); try with_reducible rfl)
         try simp only [Act.put, List.setIfInBounds_toArray, List.set_cons_zero, List.set_cons_succ]
         refine wpAnyH_take (i := 27) (oi := { dst := some 81, op := Op.binOp BinOp.neq 2 (Operand.tmp 75) (Operand.tmp 80) 2, type := 4, pos := "linear.go:182", after := #[{ on := 21, ground := Ground.data }, { on := 26, ground := Ground.data }, { on := 16, ground := Ground.guard }], guard := some (16, true) }) (v := ?rcv27) rfl (by kernel_rfl) (by kernel_rfl) (by kernel_rfl) (fun _ _ _ h => h) (Or.inl ⟨by rfl, ?rch27⟩) (by assumption) ?rcr27
         case rch27 => ((intro w hSw; (try dsimp only at hSw); go_simp); try with_reducible rfl)
         try simp only [Act.put, List.setIfInBounds_toArray, List.set_cons_zero, List.set_cons_succ]
         refine wpAnyH_take (i := 28) (oi := { dst := some 82, op := Op.pick (Operand.tmp 70) (Operand.tmp 81) (Operand.const (Value.bool false)), type := 4, pos := "linear.go:182", after := #[{ on := 16, ground := Ground.data }, { on := 27, ground := Ground.data }, { on := 9, ground := Ground.guard }], guard := some (9, false) }) (v := ?rcv28) rfl (by kernel_rfl) (by kernel_rfl) (by kernel_rfl) (fun _ _ _ h => h) (Or.inl ⟨by rfl, ?rch28⟩) (by assumption) ?rcr28
         case rch28 => ((intro w hSw; (try dsimp only at hSw); go_simp); try with_reducible rfl)
         try simp only [Act.put, List.setIfInBounds_toArray, List.set_cons_zero, List.set_cons_succ]
         refine wpAnyH_take (i := 29) (oi := { dst := some 83, op := Op.pick (Operand.tmp 63) (Operand.const (Value.bool true)) (Operand.tmp 82), type := 4, pos := "linear.go:182", after := #[{ on := 9, ground := Ground.data }, { on := 28, ground := Ground.data }], guard := none }) (v := ?rcv29) rfl (by kernel_rfl) (by kernel_rfl) (by kernel_rfl) (fun _ _ _ h => h) (Or.inl ⟨by rfl, ?rch29⟩) (by assumption) ?rcr29
         case rch29 => ((intro w hSw; (try dsimp only at hSw); go_simp); try with_reducible rfl)
         try simp only [Act.put, List.setIfInBounds_toArray, List.set_cons_zero, List.set_cons_succ]
         refine wpAnyH_done (by kernel_rfl) ?_ _
         go_wp2_with fail
         go_meet
         exact ⟨by rw [HV.out], by assumption⟩
        ·have HV : Hid ((!F) = true) := by rw [hF, hA]; simp [hv, hk, Hid]
         have hv1 : ((cAt l y).ans == (cAt l q).value) = false := by simpa using hv
         have hv2 : ((cAt l y).ans != (cAt l q).value) = true := by simpa using hv
         clear hF hA hk hv
         refine wp_region_held_drew (S := fun w' => Below wr.heap.size wr w') (by kernel_rfl) ((Below.refl _ _).drew) (fun hHeld => ?_)
         refine wpAnyH_take (i := 0) (oi := { dst := some 54, op := Op.move (Operand.tmp 0), type := 32, pos := "linear.go:182", after := #[], guard := none }) (v := ?rdv0) rfl (by kernel_rfl) (by kernel_rfl) (by kernel_rfl) (fun _ _ _ h => h) (Or.inl ⟨by rfl, ?rdh0⟩) (by assumption) ?rdr0
         case rdh0 => ((intro w hSw; (try dsimp only at hSw); go_simp); try with_reducible rfl)
         try simp only [Act.put, List.setIfInBounds_toArray, List.set_cons_zero, List.set_cons_succ]
         refine wpAnyH_take (i := 1) (oi := { dst := some 55, op := Op.move (Operand.tmp 12), type := 3, pos := "linear.go:182", after := #[], guard := none }) (v := ?rdv1) rfl (by kernel_rfl) (by kernel_rfl) (by kernel_rfl) (fun _ _ _ h => h) (Or.inl ⟨by rfl, ?rdh1⟩) (by assumption) ?rdr1
         case rdh1 => ((intro w hSw; (try dsimp only at hSw); go_simp); try with_reducible rfl)
         try simp only [Act.put, List.setIfInBounds_toArray, List.set_cons_zero, List.set_cons_succ]
         refine wpAnyH_take (i := 2) (oi := { dst := some 56, op := Op.indexAddr 32 (Operand.tmp 54) (Operand.tmp 55), type := 0, pos := "linear.go:182", after := #[{ on := 0, ground := Ground.data }, { on := 1, ground := Ground.data }], guard := none }) (v := ?rdv2) rfl (by kernel_rfl) (by kernel_rfl) (by kernel_rfl) (fun _ _ _ h => h) (Or.inl ⟨by rfl, ?rdh2⟩) (by assumption) ?rdr2
         case rdh2 => ((intro w hSw; (try dsimp only at hSw); go_simp); try with_reducible rfl)
         try simp only [Act.put, List.setIfInBounds_toArray, List.set_cons_zero, List.set_cons_succ]
         refine wpAnyH_take (i := 3) (oi := { dst := some 57, op := Op.load 35 (Operand.tmp 56), type := 35, pos := "linear.go:182", after := #[{ on := 2, ground := Ground.data }], guard := none }) (v := ?rdv3) rfl (by kernel_rfl) (by kernel_rfl) (by kernel_rfl) (fun _ _ _ h => h) (Or.inl ⟨by rfl, ?rdh3⟩) (by assumption) ?rdr3
         case rdh3 => ((intro w hSw; (try dsimp only at hSw); go_simp); try with_reducible rfl)
         try simp only [Act.put, List.setIfInBounds_toArray, List.set_cons_zero, List.set_cons_succ]
         refine wpAnyH_take (i := 4) (oi := { dst := some 58, op := Op.move (Operand.tmp 0), type := 32, pos := "linear.go:182", after := #[], guard := none }) (v := ?rdv4) rfl (by kernel_rfl) (by kernel_rfl) (by kernel_rfl) (fun _ _ _ h => h) (Or.inl ⟨by rfl, ?rdh4⟩) (by assumption) ?rdr4
         case rdh4 => ((intro w hSw; (try dsimp only at hSw); go_simp); try with_reducible rfl)
         try simp only [Act.put, List.setIfInBounds_toArray, List.set_cons_zero, List.set_cons_succ]
         refine wpAnyH_take (i := 5) (oi := { dst := some 59, op := Op.move (Operand.tmp 2), type := 3, pos := "linear.go:182", after := #[], guard := none }) (v := ?rdv5) rfl (by kernel_rfl) (by kernel_rfl) (by kernel_rfl) (fun _ _ _ h => h) (Or.inl ⟨by rfl, ?rdh5⟩) (by assumption) ?rdr5
         case rdh5 => ((intro w hSw; (try dsimp only at hSw); go_simp); try with_reducible rfl)
         try simp only [Act.put, List.setIfInBounds_toArray, List.set_cons_zero, List.set_cons_succ]
         refine wpAnyH_take (i := 6) (oi := { dst := some 60, op := Op.indexAddr 32 (Operand.tmp 58) (Operand.tmp 59), type := 0, pos := "linear.go:182", after := #[{ on := 4, ground := Ground.data }, { on := 5, ground := Ground.data }], guard := none }) (v := ?rdv6) rfl (by kernel_rfl) (by kernel_rfl) (by kernel_rfl) (fun _ _ _ h => h) (Or.inl ⟨by rfl, ?rdh6⟩) (by assumption) ?rdr6
         case rdh6 => ((intro w hSw; (try dsimp only at hSw); go_simp); try with_reducible rfl)
         try simp only [Act.put, List.setIfInBounds_toArray, List.set_cons_zero, List.set_cons_succ]
         refine wpAnyH_take (i := 7) (oi := { dst := some 61, op := Op.load 35 (Operand.tmp 60), type := 35, pos := "linear.go:182", after := #[{ on := 6, ground := Ground.data }], guard := none }) (v := ?rdv7) rfl (by kernel_rfl) (by kernel_rfl) (by kernel_rfl) (fun _ _ _ h => h) (Or.inl ⟨by rfl, ?rdh7⟩) (by assumption) ?rdr7
         case rdh7 => ((intro w hSw; (try dsimp only at hSw); go_simp); try with_reducible rfl)
         try simp only [Act.put, List.setIfInBounds_toArray, List.set_cons_zero, List.set_cons_succ]
         refine wpAnyH_ready (rs := [8]) (by kernel_rfl) (by simp) ?_
         refine AllReadyH.cons (o := { dst := some 62, op := Op.call { callee := Callee.value (Operand.func 48), args := #[Operand.tmp 57, Operand.tmp 61], argTypes := #[35, 35] }, type := 4, pos := "linear.go:182", after := #[{ on := 3, ground := Ground.data }, { on := 7, ground := Ground.data }], guard := none }) rfl (fun K hK => ?_) AllReadyH.nil
         go_simp
         (go_at_call 48; with_reducible refine (HA.out _).mono ?_; rintro e w' ⟨rfl, hbq⟩; have hq9 : Below wr.heap.size wr w' := below_tr hbq (by assumption); clear hbq)
         refine hK.out _ _ (by assumption) (fun hHeld => ?_)
         clear hK K
         try simp only [Act.put, List.setIfInBounds_toArray, List.set_cons_zero, List.set_cons_succ]
         refine wpAnyH_take (i := 9) (oi := { dst := some 63, op := Op.move (Operand.tmp 62), type := 4, pos := "linear.go:182", after := #[{ on := 8, ground := Ground.data }, { on := 8, ground := Ground.chain }], guard := none }) (v := ?rdv9) rfl (by kernel_rfl) (by kernel_rfl) (by kernel_rfl) (fun _ _ _ h => h) (Or.inl ⟨by rfl, ?rdh9⟩) (by assumption) ?rdr9
         case rdh9 => ((intro w hSw; (try dsimp only at hSw); go_simp); try with_reducible rfl)
         try simp only [Act.put, List.setIfInBounds_toArray, List.set_cons_zero, List.set_cons_succ]
         refine wpAnyH_take (i := 10) (oi := { dst := some 64, op := Op.move (Operand.tmp 0), type := 32, pos := "linear.go:182", after := #[{ on := 9, ground := Ground.guard }], guard := some (9, false) }) (v := ?rdv10) rfl (by kernel_rfl) (by kernel_rfl) (by kernel_rfl) (fun _ _ _ h => h) (Or.inl ⟨by rfl, ?rdh10⟩) (by assumption) ?rdr10
         case rdh10 => ((intro w hSw; (try dsimp only at hSw); go_simp); try with_reducible rfl)
         try simp only [Act.put, List.setIfInBounds_toArray, List.set_cons_zero, List.set_cons_succ]
         refine wpAnyH_take (i := 11) (oi := { dst := some 65, op := Op.move (Operand.tmp 12), type := 3, pos := "linear.go:182", after := #[{ on := 9, ground := Ground.guard }], guard := some (9, false) }) (v := ?rdv11) rfl (by kernel_rfl) (by kernel_rfl) (by kernel_rfl) (fun _ _ _ h => h) (Or.inl ⟨by rfl, ?rdh11⟩) (by assumption) ?rdr11
         case rdh11 => ((intro w hSw; (try dsimp only at hSw); go_simp); try with_reducible rfl)
         try simp only [Act.put, List.setIfInBounds_toArray, List.set_cons_zero, List.set_cons_succ]
         refine wpAnyH_take (i := 12) (oi := { dst := some 66, op := Op.indexAddr 32 (Operand.tmp 64) (Operand.tmp 65), type := 0, pos := "linear.go:182", after := #[{ on := 10, ground := Ground.data }, { on := 11, ground := Ground.data }, { on := 9, ground := Ground.guard }], guard := some (9, false) }) (v := ?rdv12) rfl (by kernel_rfl) (by kernel_rfl) (by kernel_rfl) (fun _ _ _ h => h) (Or.inl ⟨by rfl, ?rdh12⟩) (by assumption) ?rdr12
         case rdh12 => ((intro w hSw; (try dsimp only at hSw); go_simp); try with_reducible rfl)
         try simp only [Act.put, List.setIfInBounds_toArray, List.set_cons_zero, List.set_cons_succ]
         refine wpAnyH_take (i := 13) (oi := { dst := some 67, op := Op.fieldAddr 35 (Operand.tmp 66) 1, type := 0, pos := "linear.go:182", after := #[{ on := 12, ground := Ground.data }, { on := 9, ground := Ground.guard }], guard := some (9, false) }) (v := ?rdv13) rfl (by kernel_rfl) (by kernel_rfl) (by kernel_rfl) (fun _ _ _ h => h) (Or.inl ⟨by rfl, ?rdh13⟩) (by assumption) ?rdr13
         case rdh13 => ((intro w hSw; (try dsimp only at hSw); go_simp); try with_reducible rfl)
         try simp only [Act.put, List.setIfInBounds_toArray, List.set_cons_zero, List.set_cons_succ]
         refine wpAnyH_take (i := 14) (oi := { dst := some 68, op := Op.load 3 (Operand.tmp 67), type := 3, pos := "linear.go:182", after := #[{ on := 13, ground := Ground.data }, { on := 9, ground := Ground.guard }], guard := some (9, false) }) (v := ?rdv14) rfl (by kernel_rfl) (by kernel_rfl) (by kernel_rfl) (fun _ _ _ h => h) (Or.inl ⟨by rfl, ?rdh14⟩) (by assumption) ?rdr14
         case rdh14 => ((intro w hSw; (try dsimp only at hSw); go_simp); try with_reducible rfl)
         try simp only [Act.put, List.setIfInBounds_toArray, List.set_cons_zero, List.set_cons_succ]
         refine wpAnyH_take (i := 15) (oi := { dst := some 69, op := Op.binOp BinOp.neq 3 (Operand.tmp 68) (Operand.const (Value.int IntKind.i64 1)) 3, type := 4, pos := "linear.go:182", after := #[{ on := 14, ground := Ground.data }, { on := 9, ground := Ground.guard }], guard := some (9, false) }) (v := ?rdv15) rfl (by kernel_rfl) (by kernel_rfl) (by kernel_rfl) (fun _ _ _ h => h) (Or.inl ⟨by rfl, ?rdh15⟩) (by assumption) ?rdr15
         case rdh15 => ((intro w hSw; (try dsimp only at hSw); go_simp); try with_reducible rfl)
         try simp only [Act.put, List.setIfInBounds_toArray, List.set_cons_zero, List.set_cons_succ]
         refine wpAnyH_take (i := 16) (oi := { dst := some 70, op := Op.move (Operand.tmp 69), type := 4, pos := "linear.go:182", after := #[{ on := 15, ground := Ground.data }, { on := 9, ground := Ground.chain }, { on := 9, ground := Ground.guard }], guard := some (9, false) }) (v := ?rdv16) rfl (by kernel_rfl) (by kernel_rfl) (by kernel_rfl) (fun _ _ _ h => h) (Or.inl ⟨by rfl, ?rdh16⟩) (by assumption) ?rdr16
         case rdh16 => ((intro w hSw; (try dsimp only at hSw); go_simp); try with_reducible rfl)
         try simp only [Act.put, List.setIfInBounds_toArray, List.set_cons_zero, List.set_cons_succ]
         refine wpAnyH_take (i := 17) (oi := { dst := some 71, op := Op.move (Operand.tmp 0), type := 32, pos := "linear.go:182", after := #[{ on := 16, ground := Ground.guard }], guard := some (16, true) }) (v := ?rdv17) rfl (by kernel_rfl) (by kernel_rfl) (by kernel_rfl) (fun _ _ _ h => h) (Or.inl ⟨by rfl, ?rdh17⟩) (by assumption) ?rdr17
         case rdh17 => ((intro w hSw; (try dsimp only at hSw); go_simp); try with_reducible rfl)
         try simp only [Act.put, List.setIfInBounds_toArray, List.set_cons_zero, List.set_cons_succ]
         refine wpAnyH_take (i := 18) (oi := { dst := some 72, op := Op.move (Operand.tmp 12), type := 3, pos := "linear.go:182", after := #[{ on := 16, ground := Ground.guard }], guard := some (16, true) }) (v := ?rdv18) rfl (by kernel_rfl) (by kernel_rfl) (by kernel_rfl) (fun _ _ _ h => h) (Or.inl ⟨by rfl, ?rdh18⟩) (by assumption) ?rdr18
         case rdh18 => ((intro w hSw; (try dsimp only at hSw); go_simp); try with_reducible rfl)
         try simp only [Act.put, List.setIfInBounds_toArray, List.set_cons_zero, List.set_cons_succ]
         refine wpAnyH_take (i := 19) (oi := { dst := some 73, op := Op.indexAddr 32 (Operand.tmp 71) (Operand.tmp 72), type := 0, pos := "linear.go:182", after := #[{ on := 17, ground := Ground.data }, { on := 18, ground := Ground.data }, { on := 16, ground := Ground.guard }], guard := some (16, true) }) (v := ?rdv19) rfl (by kernel_rfl) (by kernel_rfl) (by kernel_rfl) (fun _ _ _ h => h) (Or.inl ⟨by rfl, ?rdh19⟩) (by assumption) ?rdr19
         case rdh19 => ((intro w hSw; (try dsimp only at hSw); go_simp); try with_reducible rfl)
         try simp only [Act.put, List.setIfInBounds_toArray, List.set_cons_zero, List.set_cons_succ]
         refine wpAnyH_take (i := 20) (oi := { dst := some 74, op := Op.fieldAddr 35 (Operand.tmp 73) 6, type := 0, pos := "linear.go:182", after := #[{ on := 19, ground := Ground.data }, { on := 16, ground := Ground.guard }], guard := some (16, true) }) (v := ?rdv20) rfl (by kernel_rfl) (by kernel_rfl) (by kernel_rfl) (fun _ _ _ h => h) (Or.inl ⟨by rfl, ?rdh20⟩) (by assumption) ?rdr20
         case rdh20 => ((intro w hSw; (try dsimp only at hSw); go_simp); try with_reducible rfl)
         try simp only [Act.put, List.setIfInBounds_toArray, List.set_cons_zero, List.set_cons_succ]
         refine wpAnyH_take (i := 21) (oi := { dst := some 75, op := Op.load 2 (Operand.tmp 74), type := 2, pos := "linear.go:182", after := #[{ on := 20, ground := Ground.data }, { on := 16, ground := Ground.guard }], guard := some (16, true) }) (v := ?rdv21) rfl (by kernel_rfl) (by kernel_rfl) (by kernel_rfl) (fun _ _ _ h => h) (Or.inl ⟨by rfl, ?rdh21⟩) (by assumption) ?rdr21
         case rdh21 => ((intro w hSw; (try dsimp only at hSw); go_simp); try with_reducible rfl)
         try simp only [Act.put, List.setIfInBounds_toArray, List.set_cons_zero, List.set_cons_succ]
         refine wpAnyH_take (i := 22) (oi := { dst := some 76, op := Op.move (Operand.tmp 0), type := 32, pos := "linear.go:182", after := #[{ on := 16, ground := Ground.guard }], guard := some (16, true) }) (v := ?rdv22) rfl (by kernel_rfl) (by kernel_rfl) (by kernel_rfl) (fun _ _ _ h => h) (Or.inl ⟨by rfl, ?rdh22⟩) (by assumption) ?rdr22
         case rdh22 => ((intro w hSw; (try dsimp only at hSw); go_simp); try with_reducible rfl)
         try simp only [Act.put, List.setIfInBounds_toArray, List.set_cons_zero, List.set_cons_succ]
         refine wpAnyH_take (i := 23) (oi := { dst := some 77, op := Op.move (Operand.tmp 2), type := 3, pos := "linear.go:182", after := #[{ on := 16, ground := Ground.guard }], guard := some (16, true) }) (v := ?rdv23) rfl (by kernel_rfl) (by kernel_rfl) (by kernel_rfl) (fun _ _ _ h => h) (Or.inl ⟨by rfl, ?rdh23⟩) (by assumption) ?rdr23
         case rdh23 => ((intro w hSw; (try dsimp only at hSw); go_simp); try with_reducible rfl)
         try simp only [Act.put, List.setIfInBounds_toArray, List.set_cons_zero, List.set_cons_succ]
         refine wpAnyH_take (i := 24) (oi := { dst := some 78, op := Op.indexAddr 32 (Operand.tmp 76) (Operand.tmp 77), type := 0, pos := "linear.go:182", after := #[{ on := 22, ground := Ground.data }, { on := 23, ground := Ground.data }, { on := 16, ground := Ground.guard }], guard := some (16, true) }) (v := ?rdv24) rfl (by kernel_rfl) (by kernel_rfl) (by kernel_rfl) (fun _ _ _ h => h) (Or.inl ⟨by rfl, ?rdh24⟩) (by assumption) ?rdr24
         case rdh24 => ((intro w hSw; (try dsimp only at hSw); go_simp); try with_reducible rfl)
         try simp only [Act.put, List.setIfInBounds_toArray, List.set_cons_zero, List.set_cons_succ]
         refine wpAnyH_take (i := 25) (oi := { dst := some 79, op := Op.fieldAddr 35 (Operand.tmp 78) 3, type := 0, pos := "linear.go:182", after := #[{ on := 24, ground := Ground.data }, { on := 16, ground := Ground.guard }], guard := some (16, true) }) (v := ?rdv25) rfl (by kernel_rfl) (by kernel_rfl) (by kernel_rfl) (fun _ _ _ h => h) (Or.inl ⟨by rfl, ?rdh25⟩) (by assumption) ?rdr25
         case rdh25 => ((intro w hSw; (try dsimp only at hSw); go_simp); try with_reducible rfl)
         try simp only [Act.put, List.setIfInBounds_toArray, List.set_cons_zero, List.set_cons_succ]
         refine wpAnyH_take (i := 26) (oi := { dst := some 80, op := Op.load 2 (Operand.tmp 79), type := 2, pos := "linear.go:182", after := #[{ on := 25, ground := Ground.data }, { on := 16, ground := Ground.guard }], guard := some (16, true) }) (v := ?rdv26) rfl (by kernel_rfl) (by kernel_rfl) (by kernel_rfl) (fun _ _ _ h => h) (Or.inl ⟨by rfl, ?rdh26⟩) (by assumption) ?rdr26
         case rdh26 => ((intro w hSw; (try dsimp only at hSw); go_simp); try with_reducible rfl)
         try simp only [Act.put, List.setIfInBounds_toArray, List.set_cons_zero, List.set_cons_succ]
         refine wpAnyH_take (i := 27) (oi := { dst := some 81, op := Op.binOp BinOp.neq 2 (Operand.tmp 75) (Operand.tmp 80) 2, type := 4, pos := "linear.go:182", after := #[{ on := 21, ground := Ground.data }, { on := 26, ground := Ground.data }, { on := 16, ground := Ground.guard }], guard := some (16, true) }) (v := ?rdv27) rfl (by kernel_rfl) (by kernel_rfl) (by kernel_rfl) (fun _ _ _ h => h) (Or.inl ⟨by rfl, ?rdh27⟩) (by assumption) ?rdr27
         case rdh27 => ((intro w hSw; (try dsimp only at hSw); go_simp); try with_reducible rfl)
         try simp only [Act.put, List.setIfInBounds_toArray, List.set_cons_zero, List.set_cons_succ]
         refine wpAnyH_take (i := 28) (oi := { dst := some 82, op := Op.pick (Operand.tmp 70) (Operand.tmp 81) (Operand.const (Value.bool false)), type := 4, pos := "linear.go:182", after := #[{ on := 16, ground := Ground.data }, { on := 27, ground := Ground.data }, { on := 9, ground := Ground.guard }], guard := some (9, false) }) (v := ?rdv28) rfl (by kernel_rfl) (by kernel_rfl) (by kernel_rfl) (fun _ _ _ h => h) (Or.inl ⟨by rfl, ?rdh28⟩) (by assumption) ?rdr28
         case rdh28 => ((intro w hSw; (try dsimp only at hSw); go_simp); try with_reducible rfl)
         try simp only [Act.put, List.setIfInBounds_toArray, List.set_cons_zero, List.set_cons_succ]
         refine wpAnyH_take (i := 29) (oi := { dst := some 83, op := Op.pick (Operand.tmp 63) (Operand.const (Value.bool true)) (Operand.tmp 82), type := 4, pos := "linear.go:182", after := #[{ on := 9, ground := Ground.data }, { on := 28, ground := Ground.data }], guard := none }) (v := ?rdv29) rfl (by kernel_rfl) (by kernel_rfl) (by kernel_rfl) (fun _ _ _ h => h) (Or.inl ⟨by rfl, ?rdh29⟩) (by assumption) ?rdr29
         case rdh29 => ((intro w hSw; (try dsimp only at hSw); go_simp); try with_reducible rfl)
         try simp only [Act.put, List.setIfInBounds_toArray, List.set_cons_zero, List.set_cons_succ]
         refine wpAnyH_done (by kernel_rfl) ?_ _
         go_wp2_with fail
         go_meet
         exact ⟨by rw [HV.out], by assumption⟩
     case rest =>
      obtain ⟨rfl, hbc2⟩ := hcut
      have hbw2 := below_tr hbc2 HB2.out
      clear a0 a1 a2 a3 a4 a5 a6 a7 d0 d1 d2 d3 d4 d5 d6 d7 hF
      cases F with
      | false =>
       have HV : Hid (fitsC l sb sa q = false) := by
        unfold Hid fitsC
        rw [HF2.out rfl, Bool.and_false]
       go_wp2
       go_ret
       exact ⟨ret_bool HV.out.symm, below_tr hbw2 HX.out⟩
      | true =>
       have HN3 := hid (HN2.out rfl)
       go_wp2
       go_roundw
       case rel => exact ⟨m + 1, by omega, by go_num, HN3.out, hbw2⟩
       case measure => simp [intOf]; omega
    ·have hme : m = sa.length := by omega
     subst hme
     have HV : Hid (fitsC l sb sa q = true) := by
      unfold Hid fitsC
      rw [HS.out, allTo_all HALL.out]; rfl
     go_wp2
     go_ret
     exact ⟨ret_bool HV.out.symm, below_tr HB2.out HX.out⟩
end Go.Proofs.YtabkmdhkfbcldaaGreat
