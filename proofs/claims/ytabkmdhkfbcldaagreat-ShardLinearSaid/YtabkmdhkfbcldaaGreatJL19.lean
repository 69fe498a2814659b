/-
 Legal of the document at a legal order: true.
-/
import Derived.Test.YtabkmdhkfbcldaaGreatJL18
import Derived.Test.YtabkmdhkfbcldaaGreatJL17
import Derived.Test.YtabkmdhkfbcldaaGreatJL14
namespace Go.Proofs.YtabkmdhkfbcldaaGreat
open Go.RowKit
def plTo (l : List Cl) (o : List Nat) (i : Nat) : List Nat := (List.range l.length).map (placeOf (o.take i))
theorem plTo_len (l : List Cl) (o : List Nat) (i : Nat) : (plTo l o i).length = l.length := by simp [plTo]
theorem plTo_zero (l : List Cl) (o : List Nat) : (plTo l o 0).map natVLn = List.replicate l.length (.int .i64 0) := by
 apply List.ext_getElem
 ·simp [plTo]
 ·intro i h1 h2; simp [plTo, placeOf, natVLn]
theorem plTo_get {l : List Cl} {o : List Nat} {i k : Nat} (hk : k < l.length) : (plTo l o i).getD k 0 = placeOf (o.take i) k := by
 simp [plTo, List.getD_eq_getElem?_getD, hk]
theorem plTo_set {l : List Cl} {o : List Nat} (hn : o.Nodup) {i : Nat} (hi : i < o.length) : ((plTo l o i).map natVLn).set (o.getD i 0) (natVLn (i + 1)) = (plTo l o (i + 1)).map natVLn := by
 have e : o.getD i 0 = o[i] := by simp [List.getD_eq_getElem?_getD, hi]
 rw [e]
 apply List.ext_getElem
 ·simp [plTo]
 ·intro k h1 h2
  rw [List.getElem_set]
  simp only [plTo, List.getElem_map, List.getElem_range]
  rw [place_succ hn i hi k]
  by_cases hk : o[i] = k
  ·rw [if_pos hk, if_pos hk.symm]
  ·rw [if_neg hk, if_neg (fun e => hk e.symm)]
theorem place_new {o : List Nat} (hn : o.Nodup) {i : Nat} (hi : i < o.length) : placeOf (o.take i) (o.getD i 0) = 0 := by
 have e : o.getD i 0 = o[i] := by simp [List.getD_eq_getElem?_getD, hi]
 rw [e]
 unfold placeOf
 rw [if_neg]
 intro h
 obtain ⟨j, hj, he⟩ := List.getElem_of_mem h
 rw [List.getElem_take] at he
 have hj2 : j < i := by simp at hj; omega
 exact List.pairwise_iff_getElem.1 hn j i (by omega) hi hj2 he
theorem place_le (o : List Nat) (k : Nat) : placeOf o k ≤ o.length := by
 unfold placeOf
 split
 ·rename_i h
  obtain ⟨hl, _⟩ := find_lt h
  omega
 ·omega
theorem nat_held {W : World} {b o : Nat} {ys : List Nat} (h : Row W (some ⟨b, o, none⟩) (ys.map natVLn)) (k : Nat) (hk : k < ys.length) : ∀ w, Below W.heap.size W w → w.cell? ⟨b, o + k, none⟩ = some (.int .i64 ((ys.getD k 0 : Nat) : Int)) := fun w hb => nat_at (h.below hb) k hk
set_option maxRecDepth 20000 in
set_option maxHeartbeats 8000000 in
theorem rlegal_any (l : List Cl) (p : Option Addr) (c : Nat) (o : List Nat) (q : Option Addr) (d : Nat) (w : World) (hl : l.length ≤ 1000000) (hc : l.length ≤ c) (hrow : Row w p (l.flatMap Cl.cellsLn)) (ho : Row w q (o.map natVLn)) (hz : chkL l = 0) (hlg : Legal l o) :
  Calls Tryz.prog 14 #[.slice p l.length c, .slice q o.length d] w fun e w' => e = .returned (.bool true) ∧ Below w.heap.size w w' := by
 have hol := legal_len hlg
 have HCK := hid (fun (w1 : World) (hb : Below w.heap.size w w1) => rcheck_anyLn l p c w1 hl hc (hrow.below hb))
 unfold RChkTell at HCK
 rw [hz] at HCK
 have HH := hid (chk_ok hz).2
 have HST := hid (fun (w1 : World) (hb : Below w.heap.size w w1) => steps_any l p c o q d w1 hl (by omega) (hrow.below hb) (ho.below hb) hlg.lt HH.out.at)
 rw [stp_steps, hlg.st] at HST
 have HR := hid hrow
 have HO := hid ho
 have HL := hid hlg
 have hon : ¬ (l.length : Int) < (o.length : Int) := by omega
 clear hrow ho hz hlg
 go_enter Tryz.func14, Tryz.ntmps14
 go_wp2_with (first
  | (go_at_call 34; (with_reducible refine (HCK.out _ (Below.refl _ _)).mono ?_); rintro e w1 ⟨rfl, hb1⟩; have HB1 := hid hb1; have hz1 := hb1.size; clear hb1)
  | ((with_reducible show wpList _ _ _ (⟨some 22, _, _, _, _, _⟩ :: _) _ _); go_loud (refine wpList_mkfull EInt rfl _ _ rfl w.heap.size _ _ _ _ l.length rfl rfl rfl rfl (by omega) (by unfold maxLen; omega) (by omega) ?_); intro w2 ho2 hg2; have HO2 := hid ho2; have HB2 : Hid (Below w1.heap.size w1 w2) := (Below.refl _ _).grown hg2 (Nat.le_refl _) (by simp); have hz2 := hg2.size; clear ho2 hg2))
 have HP0 : Hid (OwnI w2 w.heap.size (.slice (some ⟨w1.heap.size, 0, none⟩) l.length l.length) (plTo l o 0)) := by
  have h := HO2.out
  rw [made_one _ _ rfl] at h
  unfold Hid OwnI
  rw [plTo_zero, plTo_len]; exact h
 have HBW : Hid (Below w.heap.size w w2) := HB1.out.trans (HB2.out.mono hz1)
 clear HO2
 go_loopw [6] (fun i wr => ∃ k : Nat, k ≤ o.length ∧ i = .int .i64 k ∧ OwnI wr w.heap.size (.slice (some ⟨w1.heap.size, 0, none⟩) l.length l.length) (plTo l o k) ∧ Below w.heap.size w wr) (fun i _ => o.length - (intOf i).toNat)
 case atStart => exact ⟨0, Nat.zero_le _, rfl, HP0.out, HBW.out⟩
 case round =>
  obtain ⟨i, hi, rfl, hpl, hb⟩ := hrel
  have HP := hid hpl
  have HB := hid hb
  clear hpl hb HP0 HBW HB1 HB2
  by_cases hlt : i < o.length
  ·have hro := HO.out.below HB.out
   obtain ⟨bo, oo, rfl, hbo, -⟩ := hro.at (by simpa using (show 0 < o.length by omega))
   have cx := nat_at hro i hlt
   have hxl := getD_lt HL.out.lt hlt
   have hpn := place_new HL.out.nd hlt
   have HSET := hid (plTo_set (l := l) HL.out.nd hlt)
   generalize o.getD i 0 = x at cx hxl hpn HSET
   have hpc := HP.out
   unfold OwnI at hpc
   rw [plTo_len] at hpc
   obtain ⟨c0, c1⟩ := own_cell hpc x (by simp [plTo_len]; exact hxl)
   have c2 : wr.cell? ⟨w1.heap.size, x, none⟩ = some (.int .i64 0) := by
    rw [c0]
    have := plTo_get (l := l) (o := o) (i := i) hxl
    rw [hpn] at this
    have hx2 : x < (plTo l o i).length := by rw [plTo_len]; exact hxl
    simp only [List.getElem_map]
    rw [show (plTo l o i)[x] = 0 by simpa [List.getD_eq_getElem?_getD, hx2] using this]
    rfl
   have HN : Hid (OwnI (wr.setCell ⟨w1.heap.size, x, none⟩ (.int .i64 ((i : Int) + 1))) w.heap.size (.slice (some ⟨w1.heap.size, 0, none⟩) l.length l.length) (plTo l o (i + 1))) := by
    have h := own_set hpc x (natVLn (i + 1))
    rw [HSET.out] at h
    unfold Hid OwnI
    rw [plTo_len]
    have e : natVLn (i + 1) = .int .i64 ((i : Int) + 1) := by unfold natVLn; go_num
    rw [e] at h; exact h
   clear hro c0 hpn hpc HSET
   have hx1 : decide ((x : Int) < 0) = false := decide_eq_false (by omega)
   have hx2 : ¬ (x : Int) < 0 := by omega
   have hx3 : ¬ (l.length : Int) ≤ (x : Int) := by omega
   go_wp2
   exact ⟨⟨i + 1, by omega, by go_num, HN.out, HB.out.setCell (by omega) _⟩, by simp [intOf]; omega⟩
  ·have hie : i = o.length := by omega
   subst hie
   have HPF : Hid (OwnI wr w.heap.size (.slice (some ⟨w1.heap.size, 0, none⟩) l.length l.length) (plTo l o o.length)) := HP.out
   clear HP
   go_wp2
   obtain ⟨W5, hW5⟩ : ∃ W5, W5 = wr := ⟨_, rfl⟩
   rw [← hW5] at HPF HB ⊢
   clear hW5
   have hz5 := HB.out.size
   have HPR : Hid (Row W5 (some ⟨w1.heap.size, 0, none⟩) ((plTo l o o.length).map natVLn)) := own_slice_row HPF.out
   have HTK : Hid (o.take o.length = o) := List.take_of_length_le (Nat.le_refl _)
   go_loopw [8] (fun i wr => ∃ k : Nat, k ≤ l.length ∧ i = .int .i64 k ∧ Below W5.heap.size W5 wr) (fun i _ => l.length - (intOf i).toNat)
   case atStart => exact ⟨0, Nat.zero_le _, rfl, Below.refl _ _⟩
   case round =>
    obtain ⟨i, hi, rfl, hb⟩ := hrel
    have HB3 := hid hb
    clear hb
    by_cases hlt2 : i < l.length
    ·have hbw := HB.out.trans (HB3.out.mono hz5)
     obtain ⟨bl, ol, rfl, hbl, -⟩ := (HR.out.below hbw).at (by have := flat_len Cl.cellsLn 8 (fun _ => rfl) l; omega)
     have d5 := (cl_cat (HR.out.below hbw) i hlt2).2.2.2.2.2.1
     have y0 := nat_at (HPR.out.below HB3.out) i (by rw [plTo_len]; exact hlt2)
     rw [plTo_get hlt2, HTK.out] at y0
     simp only [Nat.zero_add] at y0
     have HPI := hid (fun (h : 0 ≤ (cAt l i).to) => place_pos.2 (HL.out.all i hlt2 (fun e => by omega)))
     generalize hpi : placeOf o i = pi at y0 HPI
     generalize hte : (cAt l i).to = te at d5 HPI
     have HPE := hid hpi
     have hi1 : decide ((i : Int) < 0) = false := decide_eq_false (by omega)
     have hple : pi ≤ 1000000 := by rw [← hpi]; have := place_le o i; omega
     clear hbw hpi hte
     have hgo : Hid (∀ wr, Below W5.heap.size W5 wr → True) := fun _ _ => trivial
     clear hgo
     by_cases ht : te < 0
     ·have hone := True.intro
      clear hone
      go_wp2
      go_loopw [9] (fun u wr => ∃ k : Nat, k ≤ l.length ∧ u = .int .i64 k ∧ Below W5.heap.size W5 wr) (fun u _ => l.length - (intOf u).toNat)
      case atStart => exact ⟨0, Nat.zero_le _, rfl, HB3.out⟩
      case round =>
       obtain ⟨k, hk, rfl, hb⟩ := hrel
       have HB4 := hid hb
       clear hb
       by_cases hlt3 : k < l.length
       ·have hbw := HB.out.trans (HB4.out.mono hz5)
        obtain ⟨a0, a1, a2, a3, a4, a5, a6, a7⟩ := cl_held (HR.out.below hbw) i hlt2
        obtain ⟨d0, d1, d2, d3, d4, d5, d6, d7⟩ := cl_held (HR.out.below hbw) k hlt3
        have z0 := nat_held (HPR.out.below HB4.out) i (by rw [plTo_len]; exact hlt2)
        have z1 := nat_held (HPR.out.below HB4.out) k (by rw [plTo_len]; exact hlt3)
        rw [plTo_get hlt2, HTK.out, HPE.out] at z0
        rw [plTo_get hlt3, HTK.out] at z1
        simp only [Nat.zero_add] at z0 z1
        have HA := hid (fun w1 => rahead_lit (cAt l i) (cAt l k) w1)
        have HNO := hid (fun (h1 : 0 < pi) (h2 : 0 < placeOf o k) (h3 : placeOf o k < pi) => place_ahead HL.out (i := i) (k := k) (place_pos.1 (by rw [HPE.out]; exact h1)) (place_pos.1 h2) (by rw [HPE.out]; exact h3))
        have hpk := place_le o k
        generalize placeOf o k = pk at z1 HNO hpk
        clear hbw
        have hq1 : decide ((i : Int) < 0) = false := decide_eq_false (by omega)
        have hq2 : decide ((l.length : Int) ≤ (i : Int)) = false := decide_eq_false (by omega)
        have hq3 : decide (l.length ≤ i) = false := decide_eq_false (by omega)
        have hx1 : decide ((k : Int) < 0) = false := decide_eq_false (by omega)
        have hx2 : decide ((l.length : Int) ≤ (k : Int)) = false := decide_eq_false (by omega)
        have hx3 : decide (l.length ≤ k) = false := decide_eq_false (by omega)
        go_upto_region 19 with (fail)
        go_cut [111] from 78 to 111 (fun v wx => v = .bool false ∧ Below wr.heap.size wr wx)
        case first =>
         by_cases g1 : 0 < pi
         ·have g1a : decide ((0 : Int) < (pi : Int)) = true := decide_eq_true (by omega)
          have g1b : decide (0 < pi) = true := decide_eq_true g1
          by_cases g2 : 0 < pk
          ·have g2a : decide ((0 : Int) < (pk : Int)) = true := decide_eq_true (by omega)
           have g2b : decide (0 < pk) = true := decide_eq_true g2
           by_cases g3 : pk < pi
           ·have g3a : decide ((pk : Int) < (pi : Int)) = true := decide_eq_true (by omega)
            have g3b : decide (pk < pi) = true := decide_eq_true g3
            rw [HNO.out g1 g2 g3] at HA
            refine wp_region_held_drew (S := fun w' => Below wr.heap.size wr w') (by kernel_rfl) ((Below.refl _ _).drew) (fun hHeld => ?_)
            refine wpAnyH_take (i := 0) (oi := { dst := some 78, op := Op.move (Operand.tmp 5), type := 40, pos := "ref.go:112", after := #[], guard := none }) (v := ?pav0) rfl (by kernel_rfl) (by kernel_rfl) (by kernel_rfl) (fun _ _ _ h => h) (Or.inl ⟨by rfl, ?pah0⟩) (by assumption) ?par0
            case pah0 => ((intro w hSw; (try dsimp only at hSw); go_simp); try with_reducible rfl)
            try simp only [Act.put, List.setIfInBounds_toArray, List.set_cons_zero, List.set_cons_succ]
            refine wpAnyH_take (i := 1) (oi := { dst := some 79, op := Op.move (Operand.tmp 8), type := 3, pos := "ref.go:112", after := #[], guard := none }) (v := ?pav1) rfl (by kernel_rfl) (by kernel_rfl) (by kernel_rfl) (fun _ _ _ h => h) (Or.inl ⟨by rfl, ?pah1⟩) (by assumption) ?par1
            case pah1 => ((intro w hSw; (try dsimp only at hSw); go_simp); try with_reducible rfl)
            try simp only [Act.put, List.setIfInBounds_toArray, List.set_cons_zero, List.set_cons_succ]
            refine wpAnyH_take (i := 2) (oi := { dst := some 80, op := Op.indexAddr 40 (Operand.tmp 78) (Operand.tmp 79), type := 0, pos := "ref.go:112", after := #[{ on := 0, ground := Ground.data }, { on := 1, ground := Ground.data }], guard := none }) (v := ?pav2) rfl (by kernel_rfl) (by kernel_rfl) (by kernel_rfl) (fun _ _ _ h => h) (Or.inl ⟨by rfl, ?pah2⟩) (by assumption) ?par2
            case pah2 => ((intro w hSw; (try dsimp only at hSw); go_simp); try with_reducible rfl)
            try simp only [Act.put, List.setIfInBounds_toArray, List.set_cons_zero, List.set_cons_succ]
            refine wpAnyH_take (i := 3) (oi := { dst := some 81, op := Op.load 3 (Operand.tmp 80), type := 3, pos := "ref.go:112", after := #[{ on := 2, ground := Ground.data }], guard := none }) (v := ?pav3) rfl (by kernel_rfl) (by kernel_rfl) (by kernel_rfl) (fun _ _ _ h => h) (Or.inl ⟨by rfl, ?pah3⟩) (by assumption) ?par3
            case pah3 => ((intro w hSw; (try dsimp only at hSw); go_simp); try with_reducible rfl)
            try simp only [Act.put, List.setIfInBounds_toArray, List.set_cons_zero, List.set_cons_succ]
            refine wpAnyH_take (i := 4) (oi := { dst := some 82, op := Op.binOp BinOp.gtr 3 (Operand.tmp 81) (Operand.const (Value.int IntKind.i64 0)) 3, type := 4, pos := "ref.go:112", after := #[{ on := 3, ground := Ground.data }], guard := none }) (v := ?pav4) rfl (by kernel_rfl) (by kernel_rfl) (by kernel_rfl) (fun _ _ _ h => h) (Or.inl ⟨by rfl, ?pah4⟩) (by assumption) ?par4
            case pah4 => ((intro w hSw; (try dsimp only at hSw); go_simp); try with_reducible rfl)
            try simp only [Act.put, List.setIfInBounds_toArray, List.set_cons_zero, List.set_cons_succ]
            refine wpAnyH_take (i := 5) (oi := { dst := some 83, op := Op.move (Operand.tmp 82), type := 4, pos := "ref.go:112", after := #[{ on := 4, ground := Ground.data }], guard := none }) (v := ?pav5) rfl (by kernel_rfl) (by kernel_rfl) (by kernel_rfl) (fun _ _ _ h => h) (Or.inl ⟨by rfl, ?pah5⟩) (by assumption) ?par5
            case pah5 => ((intro w hSw; (try dsimp only at hSw); go_simp); try with_reducible rfl)
            try simp only [Act.put, List.setIfInBounds_toArray, List.set_cons_zero, List.set_cons_succ]
            refine wpAnyH_take (i := 6) (oi := { dst := some 84, op := Op.move (Operand.tmp 5), type := 40, pos := "ref.go:112", after := #[{ on := 5, ground := Ground.guard }], guard := some (5, true) }) (v := ?pav6) rfl (by kernel_rfl) (by kernel_rfl) (by kernel_rfl) (fun _ _ _ h => h) (Or.inl ⟨by rfl, ?pah6⟩) (by assumption) ?par6
            case pah6 => ((intro w hSw; (try dsimp only at hSw); go_simp); try with_reducible rfl)
            try simp only [Act.put, List.setIfInBounds_toArray, List.set_cons_zero, List.set_cons_succ]
            refine wpAnyH_take (i := 7) (oi := { dst := some 85, op := Op.move (Operand.tmp 9), type := 3, pos := "ref.go:112", after := #[{ on := 5, ground := Ground.guard }], guard := some (5, true) }) (v := ?pav7) rfl (by kernel_rfl) (by kernel_rfl) (by kernel_rfl) (fun _ _ _ h => h) (Or.inl ⟨by rfl, ?pah7⟩) (by assumption) ?par7
            case pah7 => ((intro w hSw; (try dsimp only at hSw); go_simp); try with_reducible rfl)
            try simp only [Act.put, List.setIfInBounds_toArray, List.set_cons_zero, List.set_cons_succ]
            refine wpAnyH_take (i := 8) (oi := { dst := some 86, op := Op.indexAddr 40 (Operand.tmp 84) (Operand.tmp 85), type := 0, pos := "ref.go:112", after := #[{ on := 6, ground := Ground.data }, { on := 7, ground := Ground.data }, { on := 5, ground := Ground.guard }], guard := some (5, true) }) (v := ?pav8) rfl (by kernel_rfl) (by kernel_rfl) (by kernel_rfl) (fun _ _ _ h => h) (Or.inl ⟨by rfl, ?pah8⟩) (by assumption) ?par8
            case pah8 => ((intro w hSw; (try dsimp only at hSw); go_simp); try with_reducible rfl)
            try simp only [Act.put, List.setIfInBounds_toArray, List.set_cons_zero, List.set_cons_succ]
            refine wpAnyH_take (i := 9) (oi := { dst := some 87, op := Op.load 3 (Operand.tmp 86), type := 3, pos := "ref.go:112", after := #[{ on := 8, ground := Ground.data }, { on := 5, ground := Ground.guard }], guard := some (5, true) }) (v := ?pav9) rfl (by kernel_rfl) (by kernel_rfl) (by kernel_rfl) (fun _ _ _ h => h) (Or.inl ⟨by rfl, ?pah9⟩) (by assumption) ?par9
            case pah9 => ((intro w hSw; (try dsimp only at hSw); go_simp); try with_reducible rfl)
            try simp only [Act.put, List.setIfInBounds_toArray, List.set_cons_zero, List.set_cons_succ]
            refine wpAnyH_take (i := 10) (oi := { dst := some 88, op := Op.binOp BinOp.gtr 3 (Operand.tmp 87) (Operand.const (Value.int IntKind.i64 0)) 3, type := 4, pos := "ref.go:112", after := #[{ on := 9, ground := Ground.data }, { on := 5, ground := Ground.guard }], guard := some (5, true) }) (v := ?pav10) rfl (by kernel_rfl) (by kernel_rfl) (by kernel_rfl) (fun _ _ _ h => h) (Or.inl ⟨by rfl, ?pah10⟩) (by assumption) ?par10
            case pah10 => ((intro w hSw; (try dsimp only at hSw); go_simp); try with_reducible rfl)
            try simp only [Act.put, List.setIfInBounds_toArray, List.set_cons_zero, List.set_cons_succ]
            refine wpAnyH_take (i := 11) (oi := { dst := some 89, op := Op.pick (Operand.tmp 83) (Operand.tmp 88) (Operand.const (Value.bool false)), type := 4, pos := "ref.go:112", after := #[{ on := 5, ground := Ground.data }, { on := 10, ground := Ground.data }], guard := none }) (v := ?pav11) rfl (by kernel_rfl) (by kernel_rfl) (by kernel_rfl) (fun _ _ _ h => h) (Or.inl ⟨by rfl, ?pah11⟩) (by assumption) ?par11
            case pah11 => ((intro w hSw; (try dsimp only at hSw); go_simp); try with_reducible rfl)
            try simp only [Act.put, List.setIfInBounds_toArray, List.set_cons_zero, List.set_cons_succ]
            refine wpAnyH_take (i := 12) (oi := { dst := some 90, op := Op.move (Operand.tmp 89), type := 4, pos := "ref.go:112", after := #[{ on := 11, ground := Ground.data }, { on := 5, ground := Ground.chain }], guard := none }) (v := ?pav12) rfl (by kernel_rfl) (by kernel_rfl) (by kernel_rfl) (fun _ _ _ h => h) (Or.inl ⟨by rfl, ?pah12⟩) (by assumption) ?par12
            case pah12 => ((intro w hSw; (try dsimp only at hSw); go_simp); try with_reducible rfl)
            try simp only [Act.put, List.setIfInBounds_toArray, List.set_cons_zero, List.set_cons_succ]
            refine wpAnyH_take (i := 13) (oi := { dst := some 91, op := Op.move (Operand.tmp 5), type := 40, pos := "ref.go:112", after := #[{ on := 12, ground := Ground.guard }], guard := some (12, true) }) (v := ?pav13) rfl (by kernel_rfl) (by kernel_rfl) (by kernel_rfl) (fun _ _ _ h => h) (Or.inl ⟨by rfl, ?pah13⟩) (by assumption) ?par13
            case pah13 => ((intro w hSw; (try dsimp only at hSw); go_simp); try with_reducible rfl)
            try simp only [Act.put, List.setIfInBounds_toArray, List.set_cons_zero, List.set_cons_succ]
            refine wpAnyH_take (i := 14) (oi := { dst := some 92, op := Op.move (Operand.tmp 9), type := 3, pos := "ref.go:112", after := #[{ on := 12, ground := Ground.guard }], guard := some (12, true) }) (v := ?pav14) rfl (by kernel_rfl) (by kernel_rfl) (by kernel_rfl) (fun _ _ _ h => h) (Or.inl ⟨by rfl, ?pah14⟩) (by assumption) ?par14
            case pah14 => ((intro w hSw; (try dsimp only at hSw); go_simp); try with_reducible rfl)
            try simp only [Act.put, List.setIfInBounds_toArray, List.set_cons_zero, List.set_cons_succ]
            refine wpAnyH_take (i := 15) (oi := { dst := some 93, op := Op.indexAddr 40 (Operand.tmp 91) (Operand.tmp 92), type := 0, pos := "ref.go:112", after := #[{ on := 13, ground := Ground.data }, { on := 14, ground := Ground.data }, { on := 12, ground := Ground.guard }], guard := some (12, true) }) (v := ?pav15) rfl (by kernel_rfl) (by kernel_rfl) (by kernel_rfl) (fun _ _ _ h => h) (Or.inl ⟨by rfl, ?pah15⟩) (by assumption) ?par15
            case pah15 => ((intro w hSw; (try dsimp only at hSw); go_simp); try with_reducible rfl)
            try simp only [Act.put, List.setIfInBounds_toArray, List.set_cons_zero, List.set_cons_succ]
            refine wpAnyH_take (i := 16) (oi := { dst := some 94, op := Op.load 3 (Operand.tmp 93), type := 3, pos := "ref.go:112", after := #[{ on := 15, ground := Ground.data }, { on := 12, ground := Ground.guard }], guard := some (12, true) }) (v := ?pav16) rfl (by kernel_rfl) (by kernel_rfl) (by kernel_rfl) (fun _ _ _ h => h) (Or.inl ⟨by rfl, ?pah16⟩) (by assumption) ?par16
            case pah16 => ((intro w hSw; (try dsimp only at hSw); go_simp); try with_reducible rfl)
            try simp only [Act.put, List.setIfInBounds_toArray, List.set_cons_zero, List.set_cons_succ]
            refine wpAnyH_take (i := 17) (oi := { dst := some 95, op := Op.move (Operand.tmp 5), type := 40, pos := "ref.go:112", after := #[{ on := 12, ground := Ground.guard }], guard := some (12, true) }) (v := ?pav17) rfl (by kernel_rfl) (by kernel_rfl) (by kernel_rfl) (fun _ _ _ h => h) (Or.inl ⟨by rfl, ?pah17⟩) (by assumption) ?par17
            case pah17 => ((intro w hSw; (try dsimp only at hSw); go_simp); try with_reducible rfl)
            try simp only [Act.put, List.setIfInBounds_toArray, List.set_cons_zero, List.set_cons_succ]
            refine wpAnyH_take (i := 18) (oi := { dst := some 96, op := Op.move (Operand.tmp 8), type := 3, pos := "ref.go:112", after := #[{ on := 12, ground := Ground.guard }], guard := some (12, true) }) (v := ?pav18) rfl (by kernel_rfl) (by kernel_rfl) (by kernel_rfl) (fun _ _ _ h => h) (Or.inl ⟨by rfl, ?pah18⟩) (by assumption) ?par18
            case pah18 => ((intro w hSw; (try dsimp only at hSw); go_simp); try with_reducible rfl)
            try simp only [Act.put, List.setIfInBounds_toArray, List.set_cons_zero, List.set_cons_succ]
            refine wpAnyH_take (i := 19) (oi := { dst := some 97, op := Op.indexAddr 40 (Operand.tmp 95) (Operand.tmp 96), type := 0, pos := "ref.go:112", after := #[{ on := 17, ground := Ground.data }, { on := 18, ground := Ground.data }, { on := 12, ground := Ground.guard }], guard := some (12, true) }) (v := ?pav19) rfl (by kernel_rfl) (by kernel_rfl) (by kernel_rfl) (fun _ _ _ h => h) (Or.inl ⟨by rfl, ?pah19⟩) (by assumption) ?par19
            case pah19 => ((intro w hSw; (try dsimp only at hSw); go_simp); try with_reducible rfl)
            try simp only [Act.put, List.setIfInBounds_toArray, List.set_cons_zero, List.set_cons_succ]
            refine wpAnyH_take (i := 20) (oi := { dst := some 98, op := Op.load 3 (Operand.tmp 97), type := 3, pos := "ref.go:112", after := #[{ on := 19, ground := Ground.data }, { on := 12, ground := Ground.guard }], guard := some (12, true) }) (v := ?pav20) rfl (by kernel_rfl) (by kernel_rfl) (by kernel_rfl) (fun _ _ _ h => h) (Or.inl ⟨by rfl, ?pah20⟩) (by assumption) ?par20
            case pah20 => ((intro w hSw; (try dsimp only at hSw); go_simp); try with_reducible rfl)
            try simp only [Act.put, List.setIfInBounds_toArray, List.set_cons_zero, List.set_cons_succ]
            refine wpAnyH_take (i := 21) (oi := { dst := some 99, op := Op.binOp BinOp.lss 3 (Operand.tmp 94) (Operand.tmp 98) 3, type := 4, pos := "ref.go:112", after := #[{ on := 16, ground := Ground.data }, { on := 20, ground := Ground.data }, { on := 12, ground := Ground.guard }], guard := some (12, true) }) (v := ?pav21) rfl (by kernel_rfl) (by kernel_rfl) (by kernel_rfl) (fun _ _ _ h => h) (Or.inl ⟨by rfl, ?pah21⟩) (by assumption) ?par21
            case pah21 => ((intro w hSw; (try dsimp only at hSw); go_simp); try with_reducible rfl)
            try simp only [Act.put, List.setIfInBounds_toArray, List.set_cons_zero, List.set_cons_succ]
            refine wpAnyH_take (i := 22) (oi := { dst := some 100, op := Op.pick (Operand.tmp 90) (Operand.tmp 99) (Operand.const (Value.bool false)), type := 4, pos := "ref.go:112", after := #[{ on := 12, ground := Ground.data }, { on := 21, ground := Ground.data }], guard := none }) (v := ?pav22) rfl (by kernel_rfl) (by kernel_rfl) (by kernel_rfl) (fun _ _ _ h => h) (Or.inl ⟨by rfl, ?pah22⟩) (by assumption) ?par22
            case pah22 => ((intro w hSw; (try dsimp only at hSw); go_simp); try with_reducible rfl)
            try simp only [Act.put, List.setIfInBounds_toArray, List.set_cons_zero, List.set_cons_succ]
            refine wpAnyH_take (i := 23) (oi := { dst := some 101, op := Op.move (Operand.tmp 100), type := 4, pos := "ref.go:112", after := #[{ on := 22, ground := Ground.data }, { on := 12, ground := Ground.chain }], guard := none }) (v := ?pav23) rfl (by kernel_rfl) (by kernel_rfl) (by kernel_rfl) (fun _ _ _ h => h) (Or.inl ⟨by rfl, ?pah23⟩) (by assumption) ?par23
            case pah23 => ((intro w hSw; (try dsimp only at hSw); go_simp); try with_reducible rfl)
            try simp only [Act.put, List.setIfInBounds_toArray, List.set_cons_zero, List.set_cons_succ]
            refine wpAnyH_take (i := 24) (oi := { dst := some 102, op := Op.move (Operand.tmp 0), type := 32, pos := "ref.go:112", after := #[{ on := 23, ground := Ground.guard }], guard := some (23, true) }) (v := ?pav24) rfl (by kernel_rfl) (by kernel_rfl) (by kernel_rfl) (fun _ _ _ h => h) (Or.inl ⟨by rfl, ?pah24⟩) (by assumption) ?par24
            case pah24 => ((intro w hSw; (try dsimp only at hSw); go_simp); try with_reducible rfl)
            try simp only [Act.put, List.setIfInBounds_toArray, List.set_cons_zero, List.set_cons_succ]
            refine wpAnyH_take (i := 25) (oi := { dst := some 103, op := Op.move (Operand.tmp 8), type := 3, pos := "ref.go:112", after := #[{ on := 23, ground := Ground.guard }], guard := some (23, true) }) (v := ?pav25) rfl (by kernel_rfl) (by kernel_rfl) (by kernel_rfl) (fun _ _ _ h => h) (Or.inl ⟨by rfl, ?pah25⟩) (by assumption) ?par25
            case pah25 => ((intro w hSw; (try dsimp only at hSw); go_simp); try with_reducible rfl)
            try simp only [Act.put, List.setIfInBounds_toArray, List.set_cons_zero, List.set_cons_succ]
            refine wpAnyH_take (i := 26) (oi := { dst := some 104, op := Op.indexAddr 32 (Operand.tmp 102) (Operand.tmp 103), type := 0, pos := "ref.go:112", after := #[{ on := 24, ground := Ground.data }, { on := 25, ground := Ground.data }, { on := 23, ground := Ground.guard }], guard := some (23, true) }) (v := ?pav26) rfl (by kernel_rfl) (by kernel_rfl) (by kernel_rfl) (fun _ _ _ h => h) (Or.inl ⟨by rfl, ?pah26⟩) (by assumption) ?par26
            case pah26 => ((intro w hSw; (try dsimp only at hSw); go_simp); try with_reducible rfl)
            try simp only [Act.put, List.setIfInBounds_toArray, List.set_cons_zero, List.set_cons_succ]
            refine wpAnyH_take (i := 27) (oi := { dst := some 105, op := Op.load 35 (Operand.tmp 104), type := 35, pos := "ref.go:112", after := #[{ on := 26, ground := Ground.data }, { on := 23, ground := Ground.guard }], guard := some (23, true) }) (v := ?pav27) rfl (by kernel_rfl) (by kernel_rfl) (by kernel_rfl) (fun _ _ _ h => h) (Or.inl ⟨by rfl, ?pah27⟩) (by assumption) ?par27
            case pah27 => ((intro w hSw; (try dsimp only at hSw); go_simp); try with_reducible rfl)
            try simp only [Act.put, List.setIfInBounds_toArray, List.set_cons_zero, List.set_cons_succ]
            refine wpAnyH_take (i := 28) (oi := { dst := some 106, op := Op.move (Operand.tmp 0), type := 32, pos := "ref.go:112", after := #[{ on := 23, ground := Ground.guard }], guard := some (23, true) }) (v := ?pav28) rfl (by kernel_rfl) (by kernel_rfl) (by kernel_rfl) (fun _ _ _ h => h) (Or.inl ⟨by rfl, ?pah28⟩) (by assumption) ?par28
            case pah28 => ((intro w hSw; (try dsimp only at hSw); go_simp); try with_reducible rfl)
            try simp only [Act.put, List.setIfInBounds_toArray, List.set_cons_zero, List.set_cons_succ]
            refine wpAnyH_take (i := 29) (oi := { dst := some 107, op := Op.move (Operand.tmp 9), type := 3, pos := "ref.go:112", after := #[{ on := 23, ground := Ground.guard }], guard := some (23, true) }) (v := ?pav29) rfl (by kernel_rfl) (by kernel_rfl) (by kernel_rfl) (fun _ _ _ h => h) (Or.inl ⟨by rfl, ?pah29⟩) (by assumption) ?par29
            case pah29 => ((intro w hSw; (try dsimp only at hSw); go_simp); try with_reducible rfl)
            try simp only [Act.put, List.setIfInBounds_toArray, List.set_cons_zero, List.set_cons_succ]
            refine wpAnyH_take (i := 30) (oi := { dst := some 108, op := Op.indexAddr 32 (Operand.tmp 106) (Operand.tmp 107), type := 0, pos := "ref.go:112", after := #[{ on := 28, ground := Ground.data }, { on := 29, ground := Ground.data }, { on := 23, ground := Ground.guard }], guard := some (23, true) }) (v := ?pav30) rfl (by kernel_rfl) (by kernel_rfl) (by kernel_rfl) (fun _ _ _ h => h) (Or.inl ⟨by rfl, ?pah30⟩) (by assumption) ?par30
            case pah30 => ((intro w hSw; (try dsimp only at hSw); go_simp); try with_reducible rfl)
            try simp only [Act.put, List.setIfInBounds_toArray, List.set_cons_zero, List.set_cons_succ]
            refine wpAnyH_take (i := 31) (oi := { dst := some 109, op := Op.load 35 (Operand.tmp 108), type := 35, pos := "ref.go:112", after := #[{ on := 30, ground := Ground.data }, { on := 23, ground := Ground.guard }], guard := some (23, true) }) (v := ?pav31) rfl (by kernel_rfl) (by kernel_rfl) (by kernel_rfl) (fun _ _ _ h => h) (Or.inl ⟨by rfl, ?pah31⟩) (by assumption) ?par31
            case pah31 => ((intro w hSw; (try dsimp only at hSw); go_simp); try with_reducible rfl)
            try simp only [Act.put, List.setIfInBounds_toArray, List.set_cons_zero, List.set_cons_succ]
            refine wpAnyH_ready (rs := [32]) (by kernel_rfl) (by simp) ?_
            refine AllReadyH.cons (o := { dst := some 110, op := Op.call { callee := Callee.value (Operand.func 35), args := #[Operand.tmp 105, Operand.tmp 109], argTypes := #[35, 35] }, type := 4, pos := "ref.go:112", after := #[{ on := 27, ground := Ground.data }, { on := 31, ground := Ground.data }, { on := 23, ground := Ground.chain }, { on := 23, ground := Ground.guard }], guard := some (23, true) }) rfl (fun K hK => ?_) AllReadyH.nil
            go_simp
            (go_at_call 35; with_reducible refine (HA.out _).mono ?_; rintro e w' ⟨rfl, hbq⟩; have hq9 : Below wr.heap.size wr w' := below_tr hbq (by assumption); clear hbq)
            refine hK.out _ _ (by assumption) (fun hHeld => ?_)
            clear hK K
            try simp only [Act.put, List.setIfInBounds_toArray, List.set_cons_zero, List.set_cons_succ]
            refine wpAnyH_take (i := 33) (oi := { dst := some 111, op := Op.pick (Operand.tmp 101) (Operand.tmp 110) (Operand.const (Value.bool false)), type := 4, pos := "ref.go:112", after := #[{ on := 23, ground := Ground.data }, { on := 32, ground := Ground.data }], guard := none }) (v := ?pav33) rfl (by kernel_rfl) (by kernel_rfl) (by kernel_rfl) (fun _ _ _ h => h) (Or.inl ⟨by rfl, ?pah33⟩) (by assumption) ?par33
            case pah33 => ((intro w hSw; (try dsimp only at hSw); go_simp); try with_reducible rfl)
            try simp only [Act.put, List.setIfInBounds_toArray, List.set_cons_zero, List.set_cons_succ]
            refine wpAnyH_done (by kernel_rfl) ?_ _
            go_wp2_with fail
            go_meet
            exact ⟨rfl, by assumption⟩
           ·have g3a : decide ((pk : Int) < (pi : Int)) = false := decide_eq_false (by omega)
            have g3b : decide (pk < pi) = false := decide_eq_false g3
            refine wp_region_held_drew (S := fun w' => Below wr.heap.size wr w') (by kernel_rfl) ((Below.refl _ _).drew) (fun hHeld => ?_)
            refine wpAnyH_take (i := 0) (oi := { dst := some 78, op := Op.move (Operand.tmp 5), type := 40, pos := "ref.go:112", after := #[], guard := none }) (v := ?pbv0) rfl (by kernel_rfl) (by kernel_rfl) (by kernel_rfl) (fun _ _ _ h => h) (Or.inl ⟨by rfl, ?pbh0⟩) (by assumption) ?pbr0
            case pbh0 => ((intro w hSw; (try dsimp only at hSw); go_simp); try with_reducible rfl)
            try simp only [Act.put, List.setIfInBounds_toArray, List.set_cons_zero, List.set_cons_succ]
            refine wpAnyH_take (i := 1) (oi := { dst := some 79, op := Op.move (Operand.tmp 8), type := 3, pos := "ref.go:112", after := #[], guard := none }) (v := ?pbv1) rfl (by kernel_rfl) (by kernel_rfl) (by kernel_rfl) (fun _ _ _ h => h) (Or.inl ⟨by rfl, ?pbh1⟩) (by assumption) ?pbr1
            case pbh1 => ((intro w hSw; (try dsimp only at hSw); go_simp); try with_reducible rfl)
            try simp only [Act.put, List.setIfInBounds_toArray, List.set_cons_zero, List.set_cons_succ]
            refine wpAnyH_take (i := 2) (oi := { dst := some 80, op := Op.indexAddr 40 (Operand.tmp 78) (Operand.tmp 79), type := 0, pos := "ref.go:112", after := #[{ on := 0, ground := Ground.data }, { on := 1, ground := Ground.data }], guard := none }) (v := ?pbv2) rfl (by kernel_rfl) (by kernel_rfl) (by kernel_rfl) (fun _ _ _ h => h) (Or.inl ⟨by rfl, ?pbh2⟩) (by assumption) ?pbr2
            case pbh2 => ((intro w hSw; (try dsimp only at hSw); go_simp); try with_reducible rfl)
            try simp only [Act.put, List.setIfInBounds_toArray, List.set_cons_zero, List.set_cons_succ]
            refine wpAnyH_take (i := 3) (oi := { dst := some 81, op := Op.load 3 (Operand.tmp 80), type := 3, pos := "ref.go:112", after := #[{ on := 2, ground := Ground.data }], guard := none }) (v := ?pbv3) rfl (by kernel_rfl) (by kernel_rfl) (by kernel_rfl) (fun _ _ _ h => h) (Or.inl ⟨by rfl, ?pbh3⟩) (by assumption) ?pbr3
            case pbh3 => ((intro w hSw; (try dsimp only at hSw); go_simp); try with_reducible rfl)
            try simp only [Act.put, List.setIfInBounds_toArray, List.set_cons_zero, List.set_cons_succ]
            refine wpAnyH_take (i := 4) (oi := { dst := some 82, op := Op.binOp BinOp.gtr 3 (Operand.tmp 81) (Operand.const (Value.int IntKind.i64 0)) 3, type := 4, pos := "ref.go:112", after := #[{ on := 3, ground := Ground.data }], guard := none }) (v := ?pbv4) rfl (by kernel_rfl) (by kernel_rfl) (by kernel_rfl) (fun _ _ _ h => h) (Or.inl ⟨by rfl, ?pbh4⟩) (by assumption) ?pbr4
            case pbh4 => ((intro w hSw; (try dsimp only at hSw); go_simp); try with_reducible rfl)
            try simp only [Act.put, List.setIfInBounds_toArray, List.set_cons_zero, List.set_cons_succ]
            refine wpAnyH_take (i := 5) (oi := { dst := some 83, op := Op.move (Operand.tmp 82), type := 4, pos := "ref.go:112", after := #[{ on := 4, ground := Ground.data }], guard := none }) (v := ?pbv5) rfl (by kernel_rfl) (by kernel_rfl) (by kernel_rfl) (fun _ _ _ h => h) (Or.inl ⟨by rfl, ?pbh5⟩) (by assumption) ?pbr5
            case pbh5 => ((intro w hSw; (try dsimp only at hSw); go_simp); try with_reducible rfl)
            try simp only [Act.put, List.setIfInBounds_toArray, List.set_cons_zero, List.set_cons_succ]
            refine wpAnyH_take (i := 6) (oi := { dst := some 84, op := Op.move (Operand.tmp 5), type := 40, pos := "ref.go:112", after := #[{ on := 5, ground := Ground.guard }], guard := some (5, true) }) (v := ?pbv6) rfl (by kernel_rfl) (by kernel_rfl) (by kernel_rfl) (fun _ _ _ h => h) (Or.inl ⟨by rfl, ?pbh6⟩) (by assumption) ?pbr6
            case pbh6 => ((intro w hSw; (try dsimp only at hSw); go_simp); try with_reducible rfl)
            try simp only [Act.put, List.setIfInBounds_toArray, List.set_cons_zero, List.set_cons_succ]
            refine wpAnyH_take (i := 7) (oi := { dst := some 85, op := Op.move (Operand.tmp 9), type := 3, pos := "ref.go:112", after := #[{ on := 5, ground := Ground.guard }], guard := some (5, true) }) (v := ?pbv7) rfl (by kernel_rfl) (by kernel_rfl) (by kernel_rfl) (fun _ _ _ h => h) (Or.inl ⟨by rfl, ?pbh7⟩) (by assumption) ?pbr7
            case pbh7 => ((intro w hSw; (try dsimp only at hSw); go_simp); try with_reducible rfl)
            try simp only [Act.put, List.setIfInBounds_toArray, List.set_cons_zero, List.set_cons_succ]
            refine wpAnyH_take (i := 8) (oi := { dst := some 86, op := Op.indexAddr 40 (Operand.tmp 84) (Operand.tmp 85), type := 0, pos := "ref.go:112", after := #[{ on := 6, ground := Ground.data }, { on := 7, ground := Ground.data }, { on := 5, ground := Ground.guard }], guard := some (5, true) }) (v := ?pbv8) rfl (by kernel_rfl) (by kernel_rfl) (by kernel_rfl) (fun _ _ _ h => h) (Or.inl ⟨by rfl, ?pbh8⟩) (by assumption) ?pbr8
            case pbh8 => ((intro w hSw; (try dsimp only at hSw); go_simp); try with_reducible rfl)
            try simp only [Act.put, List.setIfInBounds_toArray, List.set_cons_zero, List.set_cons_succ]
            refine wpAnyH_take (i := 9) (oi := { dst := some 87, op := Op.load 3 (Operand.tmp 86), type := 3, pos := "ref.go:112", after := #[{ on := 8, ground := Ground.data }, { on := 5, ground := Ground.guard }], guard := some (5, true) }) (v := ?pbv9) rfl (by kernel_rfl) (by kernel_rfl) (by kernel_rfl) (fun _ _ _ h => h) (Or.inl ⟨by rfl, ?pbh9⟩) (by assumption) ?pbr9
            case pbh9 => ((intro w hSw; (try dsimp only at hSw); go_simp); try with_reducible rfl)
            try simp only [Act.put, List.setIfInBounds_toArray, List.set_cons_zero, List.set_cons_succ]
            refine wpAnyH_take (i := 10) (oi := { dst := some 88, op := Op.binOp BinOp.gtr 3 (Operand.tmp 87) (Operand.const (Value.int IntKind.i64 0)) 3, type := 4, pos := "ref.go:112", after := #[{ on := 9, ground := Ground.data }, { on := 5, ground := Ground.guard }], guard := some (5, true) }) (v := ?pbv10) rfl (by kernel_rfl) (by kernel_rfl) (by kernel_rfl) (fun _ _ _ h => h) (Or.inl ⟨by rfl, ?pbh10⟩) (by assumption) ?pbr10
            case pbh10 => ((intro w hSw; (try dsimp only at hSw); go_simp); try with_reducible rfl)
            try simp only [Act.put, List.setIfInBounds_toArray, List.set_cons_zero, List.set_cons_succ]
            refine wpAnyH_take (i := 11) (oi := { dst := some 89, op := Op.pick (Operand.tmp 83) (Operand.tmp 88) (Operand.const (Value.bool false)), type := 4, pos := "ref.go:112", after := #[{ on := 5, ground := Ground.data }, { on := 10, ground := Ground.data }], guard := none }) (v := ?pbv11) rfl (by kernel_rfl) (by kernel_rfl) (by kernel_rfl) (fun _ _ _ h => h) (Or.inl ⟨by rfl, ?pbh11⟩) (by assumption) ?pbr11
            case pbh11 => ((intro w hSw; (try dsimp only at hSw); go_simp); try with_reducible rfl)
            try simp only [Act.put, List.setIfInBounds_toArray, List.set_cons_zero, List.set_cons_succ]
            refine wpAnyH_take (i := 12) (oi := { dst := some 90, op := Op.move (Operand.tmp 89), type := 4, pos := "ref.go:112", after := #[{ on := 11, ground := Ground.data }, { on := 5, ground := Ground.chain }], guard := none }) (v := ?pbv12) rfl (by kernel_rfl) (by kernel_rfl) (by kernel_rfl) (fun _ _ _ h => h) (Or.inl ⟨by rfl, ?pbh12⟩) (by assumption) ?pbr12
            case pbh12 => ((intro w hSw; (try dsimp only at hSw); go_simp); try with_reducible rfl)
            try simp only [Act.put, List.setIfInBounds_toArray, List.set_cons_zero, List.set_cons_succ]
            refine wpAnyH_take (i := 13) (oi := { dst := some 91, op := Op.move (Operand.tmp 5), type := 40, pos := "ref.go:112", after := #[{ on := 12, ground := Ground.guard }], guard := some (12, true) }) (v := ?pbv13) rfl (by kernel_rfl) (by kernel_rfl) (by kernel_rfl) (fun _ _ _ h => h) (Or.inl ⟨by rfl, ?pbh13⟩) (by assumption) ?pbr13
            case pbh13 => ((intro w hSw; (try dsimp only at hSw); go_simp); try with_reducible rfl)
            try simp only [Act.put, List.setIfInBounds_toArray, List.set_cons_zero, List.set_cons_succ]
            refine wpAnyH_take (i := 14) (oi := { dst := some 92, op := Op.move (Operand.tmp 9), type := 3, pos := "ref.go:112", after := #[{ on := 12, ground := Ground.guard }], guard := some (12, true) }) (v := ?pbv14) rfl (by kernel_rfl) (by kernel_rfl) (by kernel_rfl) (fun _ _ _ h => h) (Or.inl ⟨by rfl, ?pbh14⟩) (by assumption) ?pbr14
            case pbh14 => ((intro w hSw; (try dsimp only at hSw); go_simp); try with_reducible rfl)
            try simp only [Act.put, List.setIfInBounds_toArray, List.set_cons_zero, List.set_cons_succ]
            refine wpAnyH_take (i := 15) (oi := { dst := some 93, op := Op.indexAddr 40 (Operand.tmp 91) (Operand.tmp 92), type := 0, pos := "ref.go:112", after := #[{ on := 13, ground := Ground.data }, { on := 14, ground := Ground.data }, { on := 12, ground := Ground.guard }], guard := some (12, true) }) (v := ?pbv15) rfl (by kernel_rfl) (by kernel_rfl) (by kernel_rfl) (fun _ _ _ h => h) (Or.inl ⟨by rfl, ?pbh15⟩) (by assumption) ?pbr15
            case pbh15 => ((intro w hSw; (try dsimp only at hSw); go_simp); try with_reducible rfl)
            try simp only [Act.put, List.setIfInBounds_toArray, List.set_cons_zero, List.set_cons_succ]
            refine wpAnyH_take (i := 16) (oi := { dst := some 94, op := Op.load 3 (Operand.tmp 93), type := 3, pos := "ref.go:112", after := #[{ on := 15, ground := Ground.data }, { on := 12, ground := Ground.guard }], guard := some (12, true) }) (v := ?pbv16) rfl (by kernel_rfl) (by kernel_rfl) (by kernel_rfl) (fun _ _ _ h => h) (Or.inl ⟨by rfl, ?pbh16⟩) (by assumption) ?pbr16
            case pbh16 => ((intro w hSw; (try dsimp only at hSw); go_simp); try with_reducible rfl)
            try simp only [Act.put, List.setIfInBounds_toArray, List.set_cons_zero, List.set_cons_succ]
            refine wpAnyH_take (i := 17) (oi := { dst := some 95, op := Op.move (Operand.tmp 5), type := 40, pos := "ref.go:112", after := #[{ on := 12, ground := Ground.guard }], guard := some (12, true) }) (v := ?pbv17) rfl (by kernel_rfl) (by kernel_rfl) (by kernel_rfl) (fun _ _ _ h => h) (Or.inl ⟨by rfl, ?pbh17⟩) (by assumption) ?pbr17
            case pbh17 => ((intro w hSw; (try dsimp only at hSw); go_simp); try with_reducible rfl)
            try simp only [Act.put, List.setIfInBounds_toArray, List.set_cons_zero, List.set_cons_succ]
            refine wpAnyH_take (i := 18) (oi := { dst := some 96, op := Op.move (Operand.tmp 8), type := 3, pos := "ref.go:112", after := #[{ on := 12, ground := Ground.guard }], guard := some (12, true) }) (v := ?pbv18) rfl (by kernel_rfl) (by kernel_rfl) (by kernel_rfl) (fun _ _ _ h => h) (Or.inl ⟨by rfl, ?pbh18⟩) (by assumption) ?pbr18
            case pbh18 => ((intro w hSw; (try dsimp only at hSw); go_simp); try with_reducible rfl)
            try simp only [Act.put, List.setIfInBounds_toArray, List.set_cons_zero, List.set_cons_succ]
            refine wpAnyH_take (i := 19) (oi := { dst := some 97, op := Op.indexAddr 40 (Operand.tmp 95) (Operand.tmp 96), type := 0, pos := "ref.go:112", after := #[{ on := 17, ground := Ground.data }, { on := 18, ground := Ground.data }, { on := 12, ground := Ground.guard }], guard := some (12, true) }) (v := ?pbv19) rfl (by kernel_rfl) (by kernel_rfl) (by kernel_rfl) (fun _ _ _ h => h) (Or.inl ⟨by rfl, ?pbh19⟩) (by assumption) ?pbr19
            case pbh19 => ((intro w hSw; (try dsimp only at hSw); go_simp); try with_reducible rfl)
            try simp only [Act.put, List.setIfInBounds_toArray, List.set_cons_zero, List.set_cons_succ]
            refine wpAnyH_take (i := 20) (oi := { dst := some 98, op := Op.load 3 (Operand.tmp 97), type := 3, pos := "ref.go:112", after := #[{ on := 19, ground := Ground.data }, { on := 12, ground := Ground.guard }], guard := some (12, true) }) (v := ?pbv20) rfl (by kernel_rfl) (by kernel_rfl) (by kernel_rfl) (fun _ _ _ h => h) (Or.inl ⟨by rfl, ?pbh20⟩) (by assumption) ?pbr20
            case pbh20 => ((intro w hSw; (try dsimp only at hSw); go_simp); try with_reducible rfl)
            try simp only [Act.put, List.setIfInBounds_toArray, List.set_cons_zero, List.set_cons_succ]
            refine wpAnyH_take (i := 21) (oi := { dst := some 99, op := Op.binOp BinOp.lss 3 (Operand.tmp 94) (Operand.tmp 98) 3, type := 4, pos := "ref.go:112", after := #[{ on := 16, ground := Ground.data }, { on := 20, ground := Ground.data }, { on := 12, ground := Ground.guard }], guard := some (12, true) }) (v := ?pbv21) rfl (by kernel_rfl) (by kernel_rfl) (by kernel_rfl) (fun _ _ _ h => h) (Or.inl ⟨by rfl, ?pbh21⟩) (by assumption) ?pbr21
            case pbh21 => ((intro w hSw; (try dsimp only at hSw); go_simp); try with_reducible rfl)
            try simp only [Act.put, List.setIfInBounds_toArray, List.set_cons_zero, List.set_cons_succ]
            refine wpAnyH_take (i := 22) (oi := { dst := some 100, op := Op.pick (Operand.tmp 90) (Operand.tmp 99) (Operand.const (Value.bool false)), type := 4, pos := "ref.go:112", after := #[{ on := 12, ground := Ground.data }, { on := 21, ground := Ground.data }], guard := none }) (v := ?pbv22) rfl (by kernel_rfl) (by kernel_rfl) (by kernel_rfl) (fun _ _ _ h => h) (Or.inl ⟨by rfl, ?pbh22⟩) (by assumption) ?pbr22
            case pbh22 => ((intro w hSw; (try dsimp only at hSw); go_simp); try with_reducible rfl)
            try simp only [Act.put, List.setIfInBounds_toArray, List.set_cons_zero, List.set_cons_succ]
            refine wpAnyH_take (i := 23) (oi := { dst := some 101, op := Op.move (Operand.tmp 100), type := 4, pos := "ref.go:112", after := #[{ on := 22, ground := Ground.data }, { on := 12, ground := Ground.chain }], guard := none }) (v := ?pbv23) rfl (by kernel_rfl) (by kernel_rfl) (by kernel_rfl) (fun _ _ _ h => h) (Or.inl ⟨by rfl, ?pbh23⟩) (by assumption) ?pbr23
            case pbh23 => ((intro w hSw; (try dsimp only at hSw); go_simp); try with_reducible rfl)
            try simp only [Act.put, List.setIfInBounds_toArray, List.set_cons_zero, List.set_cons_succ]
            refine wpAnyH_take (i := 24) (oi := { dst := some 102, op := Op.move (Operand.tmp 0), type := 32, pos := "ref.go:112", after := #[{ on := 23, ground := Ground.guard }], guard := some (23, true) }) (v := undef) rfl (by kernel_rfl) (by kernel_rfl) (by kernel_rfl) (fun _ _ _ h => h) (Or.inr ⟨by rfl, rfl⟩) (by assumption) ?_
            try simp only [Act.put, List.setIfInBounds_toArray, List.set_cons_zero, List.set_cons_succ]
            refine wpAnyH_take (i := 25) (oi := { dst := some 103, op := Op.move (Operand.tmp 8), type := 3, pos := "ref.go:112", after := #[{ on := 23, ground := Ground.guard }], guard := some (23, true) }) (v := undef) rfl (by kernel_rfl) (by kernel_rfl) (by kernel_rfl) (fun _ _ _ h => h) (Or.inr ⟨by rfl, rfl⟩) (by assumption) ?_
            try simp only [Act.put, List.setIfInBounds_toArray, List.set_cons_zero, List.set_cons_succ]
            refine wpAnyH_take (i := 26) (oi := { dst := some 104, op := Op.indexAddr 32 (Operand.tmp 102) (Operand.tmp 103), type := 0, pos := "ref.go:112", after := #[{ on := 24, ground := Ground.data }, { on := 25, ground := Ground.data }, { on := 23, ground := Ground.guard }], guard := some (23, true) }) (v := undef) rfl (by kernel_rfl) (by kernel_rfl) (by kernel_rfl) (fun _ _ _ h => h) (Or.inr ⟨by rfl, rfl⟩) (by assumption) ?_
            try simp only [Act.put, List.setIfInBounds_toArray, List.set_cons_zero, List.set_cons_succ]
            refine wpAnyH_take (i := 27) (oi := { dst := some 105, op := Op.load 35 (Operand.tmp 104), type := 35, pos := "ref.go:112", after := #[{ on := 26, ground := Ground.data }, { on := 23, ground := Ground.guard }], guard := some (23, true) }) (v := undef) rfl (by kernel_rfl) (by kernel_rfl) (by kernel_rfl) (fun _ _ _ h => h) (Or.inr ⟨by rfl, rfl⟩) (by assumption) ?_
            try simp only [Act.put, List.setIfInBounds_toArray, List.set_cons_zero, List.set_cons_succ]
            refine wpAnyH_take (i := 28) (oi := { dst := some 106, op := Op.move (Operand.tmp 0), type := 32, pos := "ref.go:112", after := #[{ on := 23, ground := Ground.guard }], guard := some (23, true) }) (v := undef) rfl (by kernel_rfl) (by kernel_rfl) (by kernel_rfl) (fun _ _ _ h => h) (Or.inr ⟨by rfl, rfl⟩) (by assumption) ?_
            try simp only [Act.put, List.setIfInBounds_toArray, List.set_cons_zero, List.set_cons_succ]
            refine wpAnyH_take (i := 29) (oi := { dst := some 107, op := Op.move (Operand.tmp 9), type := 3, pos := "ref.go:112", after := #[{ on := 23, ground := Ground.guard }], guard := some (23, true) }) (v := undef) rfl (by kernel_rfl) (by kernel_rfl) (by kernel_rfl) (fun _ _ _ h => h) (Or.inr ⟨by rfl, rfl⟩) (by assumption) ?_
            try simp only [Act.put, List.setIfInBounds_toArray, List.set_cons_zero, List.set_cons_succ]
            refine wpAnyH_take (i := 30) (oi := { dst := some 108, op := Op.indexAddr 32 (Operand.tmp 106) (Operand.tmp 107), type := 0, pos := "ref.go:112", after := #[{ on := 28, ground := Ground.data }, { on := 29, ground := Ground.data }, { on := 23, ground := Ground.guard }], guard := some (23, true) }) (v := undef) rfl (by kernel_rfl) (by kernel_rfl) (by kernel_rfl) (fun _ _ _ h => h) (Or.inr ⟨by rfl, rfl⟩) (by assumption) ?_
            try simp only [Act.put, List.setIfInBounds_toArray, List.set_cons_zero, List.set_cons_succ]
            refine wpAnyH_take (i := 31) (oi := { dst := some 109, op := Op.load 35 (Operand.tmp 108), type := 35, pos := "ref.go:112", after := #[{ on := 30, ground := Ground.data }, { on := 23, ground := Ground.guard }], guard := some (23, true) }) (v := undef) rfl (by kernel_rfl) (by kernel_rfl) (by kernel_rfl) (fun _ _ _ h => h) (Or.inr ⟨by rfl, rfl⟩) (by assumption) ?_
            try simp only [Act.put, List.setIfInBounds_toArray, List.set_cons_zero, List.set_cons_succ]
            refine wpAnyH_take (i := 32) (oi := { dst := some 110, op := Op.call { callee := Callee.value (Operand.func 35), args := #[Operand.tmp 105, Operand.tmp 109], argTypes := #[35, 35] }, type := 4, pos := "ref.go:112", after := #[{ on := 27, ground := Ground.data }, { on := 31, ground := Ground.data }, { on := 23, ground := Ground.chain }, { on := 23, ground := Ground.guard }], guard := some (23, true) }) (v := undef) rfl (by kernel_rfl) (by kernel_rfl) (by kernel_rfl) (fun _ _ _ h => h) (Or.inr ⟨by rfl, rfl⟩) (by assumption) ?_
            try simp only [Act.put, List.setIfInBounds_toArray, List.set_cons_zero, List.set_cons_succ]
            refine wpAnyH_take (i := 33) (oi := { dst := some 111, op := Op.pick (Operand.tmp 101) (Operand.tmp 110) (Operand.const (Value.bool false)), type := 4, pos := "ref.go:112", after := #[{ on := 23, ground := Ground.data }, { on := 32, ground := Ground.data }], guard := none }) (v := ?pbv33) rfl (by kernel_rfl) (by kernel_rfl) (by kernel_rfl) (fun _ _ _ h => h) (Or.inl ⟨by rfl, ?pbh33⟩) (by assumption) ?pbr33
            case pbh33 => ((intro w hSw; (try dsimp only at hSw); go_simp); try with_reducible rfl)
            try simp only [Act.put, List.setIfInBounds_toArray, List.set_cons_zero, List.set_cons_succ]
            refine wpAnyH_done (by kernel_rfl) ?_ _
            go_wp2_with fail
            go_meet
            exact ⟨rfl, by assumption⟩
          ·have g2a : decide ((0 : Int) < (pk : Int)) = false := decide_eq_false (by omega)
           have g2b : decide (0 < pk) = false := decide_eq_false g2
           have g2c : pk = 0 := by omega
           subst g2c
           refine wp_region_held_drew (S := fun w' => Below wr.heap.size wr w') (by kernel_rfl) ((Below.refl _ _).drew) (fun hHeld => ?_)
           refine wpAnyH_take (i := 0) (oi := { dst := some 78, op := Op.move (Operand.tmp 5), type := 40, pos := "ref.go:112", after := #[], guard := none }) (v := ?pcv0) rfl (by kernel_rfl) (by kernel_rfl) (by kernel_rfl) (fun _ _ _ h => h) (Or.inl ⟨by rfl, ?pch0⟩) (by assumption) ?pcr0
           case pch0 => ((intro w hSw; (try dsimp only at hSw); go_simp); try with_reducible rfl)
           try simp only [Act.put, List.setIfInBounds_toArray, List.set_cons_zero, List.set_cons_succ]
           refine wpAnyH_take (i := 1) (oi := { dst := some 79, op := Op.move (Operand.tmp 8), type := 3, pos := "ref.go:112", after := #[], guard := none }) (v := ?pcv1) rfl (by kernel_rfl) (by kernel_rfl) (by kernel_rfl) (fun _ _ _ h => h) (Or.inl ⟨by rfl, ?pch1⟩) (by assumption) ?pcr1
           case pch1 => ((intro w hSw; (try dsimp only at hSw); go_simp); try with_reducible rfl)
           try simp only [Act.put, List.setIfInBounds_toArray, List.set_cons_zero, List.set_cons_succ]
           refine wpAnyH_take (i := 2) (oi := { dst := some 80, op := Op.indexAddr 40 (Operand.tmp 78) (Operand.tmp 79), type := 0, pos := "ref.go:112", after := #[{ on := 0, ground := Ground.data }, { on := 1, ground := Ground.data }], guard := none }) (v := ?pcv2) rfl (by kernel_rfl) (by kernel_rfl) (by kernel_rfl) (fun _ _ _ h => h) (Or.inl ⟨by rfl, ?pch2⟩) (by assumption) ?pcr2
           case pch2 => ((intro w hSw; (try dsimp only at hSw); go_simp); try with_reducible rfl)
           try simp only [Act.put, List.setIfInBounds_toArray, List.set_cons_zero, List.set_cons_succ]
           refine wpAnyH_take (i := 3) (oi := { dst := some 81, op := Op.load 3 (Operand.tmp 80), type := 3, pos := "ref.go:112", after := #[{ on := 2, ground := Ground.data }], guard := none }) (v := ?pcv3) rfl (by kernel_rfl) (by kernel_rfl) (by kernel_rfl) (fun _ _ _ h => h) (Or.inl ⟨by rfl, ?pch3⟩) (by assumption) ?pcr3
           case pch3 => ((intro w hSw; (try dsimp only at hSw); go_simp); try with_reducible rfl)
           try simp only [Act.put, List.setIfInBounds_toArray, List.set_cons_zero, List.set_cons_succ]
           refine wpAnyH_take (i := 4) (oi := { dst := some 82, op := Op.binOp BinOp.gtr 3 (Operand.tmp 81) (Operand.const (Value.int IntKind.i64 0)) 3, type := 4, pos := "ref.go:112", after := #[{ on := 3, ground := Ground.data }], guard := none }) (v := ?pcv4) rfl (by kernel_rfl) (by kernel_rfl) (by kernel_rfl) (fun _ _ _ h => h) (Or.inl ⟨by rfl, ?pch4⟩) (by assumption) ?pcr4
           case pch4 => ((intro w hSw; (try dsimp only at hSw); go_simp); try with_reducible rfl)
           try simp only [Act.put, List.setIfInBounds_toArray, List.set_cons_zero, List.set_cons_succ]
           refine wpAnyH_take (i := 5) (oi := { dst := some 83, op := Op.move (Operand.tmp 82), type := 4, pos := "ref.go:112", after := #[{ on := 4, ground := Ground.data }], guard := none }) (v := ?pcv5) rfl (by kernel_rfl) (by kernel_rfl) (by kernel_rfl) (fun _ _ _ h => h) (Or.inl ⟨by rfl, ?pch5⟩) (by assumption) ?pcr5
           case pch5 => ((intro w hSw; (try dsimp only at hSw); go_simp); try with_reducible rfl)
           try simp only [Act.put, List.setIfInBounds_toArray, List.set_cons_zero, List.set_cons_succ]
           refine wpAnyH_take (i := 6) (oi := { dst := some 84, op := Op.move (Operand.tmp 5), type := 40, pos := "ref.go:112", after := #[{ on := 5, ground := Ground.guard }], guard := some (5, true) }) (v := ?pcv6) rfl (by kernel_rfl) (by kernel_rfl) (by kernel_rfl) (fun _ _ _ h => h) (Or.inl ⟨by rfl, ?pch6⟩) (by assumption) ?pcr6
           case pch6 => ((intro w hSw; (try dsimp only at hSw); go_simp); try with_reducible rfl)
           try simp only [Act.put, List.setIfInBounds_toArray, List.set_cons_zero, List.set_cons_succ]
           refine wpAnyH_take (i := 7) (oi := { dst := some 85, op := Op.move (Operand.tmp 9), type := 3, pos := "ref.go:112", after := #[{ on := 5, ground := Ground.guard }], guard := some (5, true) }) (v := ?pcv7) rfl (by kernel_rfl) (by kernel_rfl) (by kernel_rfl) (fun _ _ _ h => h) (Or.inl ⟨by rfl, ?pch7⟩) (by assumption) ?pcr7
           case pch7 => ((intro w hSw; (try dsimp only at hSw); go_simp); try with_reducible rfl)
           try simp only [Act.put, List.setIfInBounds_toArray, List.set_cons_zero, List.set_cons_succ]
           refine wpAnyH_take (i := 8) (oi := { dst := some 86, op := Op.indexAddr 40 (Operand.tmp 84) (Operand.tmp 85), type := 0, pos := "ref.go:112", after := #[{ on := 6, ground := Ground.data }, { on := 7, ground := Ground.data }, { on := 5, ground := Ground.guard }], guard := some (5, true) }) (v := ?pcv8) rfl (by kernel_rfl) (by kernel_rfl) (by kernel_rfl) (fun _ _ _ h => h) (Or.inl ⟨by rfl, ?pch8⟩) (by assumption) ?pcr8
           case pch8 => ((intro w hSw; (try dsimp only at hSw); go_simp); try with_reducible rfl)
           try simp only [Act.put, List.setIfInBounds_toArray, List.set_cons_zero, List.set_cons_succ]
           refine wpAnyH_take (i := 9) (oi := { dst := some 87, op := Op.load 3 (Operand.tmp 86), type := 3, pos := "ref.go:112", after := #[{ on := 8, ground := Ground.data }, { on := 5, ground := Ground.guard }], guard := some (5, true) }) (v := ?pcv9) rfl (by kernel_rfl) (by kernel_rfl) (by kernel_rfl) (fun _ _ _ h => h) (Or.inl ⟨by rfl, ?pch9⟩) (by assumption) ?pcr9
           case pch9 => ((intro w hSw; (try dsimp only at hSw); go_simp); try with_reducible rfl)
           try simp only [Act.put, List.setIfInBounds_toArray, List.set_cons_zero, List.set_cons_succ]
           refine wpAnyH_take (i := 10) (oi := { dst := some 88, op := Op.binOp BinOp.gtr 3 (Operand.tmp 87) (Operand.const (Value.int IntKind.i64 0)) 3, type := 4, pos := "ref.go:112", after := #[{ on := 9, ground := Ground.data }, { on := 5, ground := Ground.guard }], guard := some (5, true) }) (v := ?pcv10) rfl (by kernel_rfl) (by kernel_rfl) (by kernel_rfl) (fun _ _ _ h => h) (Or.inl ⟨by rfl, ?pch10⟩) (by assumption) ?pcr10
           case pch10 => ((intro w hSw; (try dsimp only at hSw); go_simp); try with_reducible rfl)
           try simp only [Act.put, List.setIfInBounds_toArray, List.set_cons_zero, List.set_cons_succ]
           refine wpAnyH_take (i := 11) (oi := { dst := some 89, op := Op.pick (Operand.tmp 83) (Operand.tmp 88) (Operand.const (Value.bool false)), type := 4, pos := "ref.go:112", after := #[{ on := 5, ground := Ground.data }, { on := 10, ground := Ground.data }], guard := none }) (v := ?pcv11) rfl (by kernel_rfl) (by kernel_rfl) (by kernel_rfl) (fun _ _ _ h => h) (Or.inl ⟨by rfl, ?pch11⟩) (by assumption) ?pcr11
           case pch11 => ((intro w hSw; (try dsimp only at hSw); go_simp); try with_reducible rfl)
           try simp only [Act.put, List.setIfInBounds_toArray, List.set_cons_zero, List.set_cons_succ]
           refine wpAnyH_take (i := 12) (oi := { dst := some 90, op := Op.move (Operand.tmp 89), type := 4, pos := "ref.go:112", after := #[{ on := 11, ground := Ground.data }, { on := 5, ground := Ground.chain }], guard := none }) (v := ?pcv12) rfl (by kernel_rfl) (by kernel_rfl) (by kernel_rfl) (fun _ _ _ h => h) (Or.inl ⟨by rfl, ?pch12⟩) (by assumption) ?pcr12
           case pch12 => ((intro w hSw; (try dsimp only at hSw); go_simp); try with_reducible rfl)
           try simp only [Act.put, List.setIfInBounds_toArray, List.set_cons_zero, List.set_cons_succ]
           refine wpAnyH_take (i := 13) (oi := { dst := some 91, op := Op.move (Operand.tmp 5), type := 40, pos := "ref.go:112", after := #[{ on := 12, ground := Ground.guard }], guard := some (12, true) }) (v := undef) rfl (by kernel_rfl) (by kernel_rfl) (by kernel_rfl) (fun _ _ _ h => h) (Or.inr ⟨by rfl, rfl⟩) (by assumption) ?_
           try simp only [Act.put, List.setIfInBounds_toArray, List.set_cons_zero, List.set_cons_succ]
           refine wpAnyH_take (i := 14) (oi := { dst := some 92, op := Op.move (Operand.tmp 9), type := 3, pos := "ref.go:112", after := #[{ on := 12, ground := Ground.guard }], guard := some (12, true) }) (v := undef) rfl (by kernel_rfl) (by kernel_rfl) (by kernel_rfl) (fun _ _ _ h => h) (Or.inr ⟨by rfl, rfl⟩) (by assumption) ?_
           try simp only [Act.put, List.setIfInBounds_toArray, List.set_cons_zero, List.set_cons_succ]
           refine wpAnyH_take (i := 15) (oi := { dst := some 93, op := Op.indexAddr 40 (Operand.tmp 91) (Operand.tmp 92), type := 0, pos := "ref.go:112", after := #[{ on := 13, ground := Ground.data }, { on := 14, ground := Ground.data }, { on := 12, ground := Ground.guard }], guard := some (12, true) }) (v := undef) rfl (by kernel_rfl) (by kernel_rfl) (by kernel_rfl) (fun _ _ _ h => h) (Or.inr ⟨by rfl, rfl⟩) (by assumption) ?_
           try simp only [Act.put, List.setIfInBounds_toArray, List.set_cons_zero, List.set_cons_succ]
           refine wpAnyH_take (i := 16) (oi := { dst := some 94, op := Op.load 3 (Operand.tmp 93), type := 3, pos := "ref.go:112", after := #[{ on := 15, ground := Ground.data }, { on := 12, ground := Ground.guard }], guard := some (12, true) }) (v := undef) rfl (by kernel_rfl) (by kernel_rfl) (by kernel_rfl) (fun _ _ _ h => h) (Or.inr ⟨by rfl, rfl⟩) (by assumption) ?_
           try simp only [Act.put, List.setIfInBounds_toArray, List.set_cons_zero, List.set_cons_succ]
           refine wpAnyH_take (i := 17) (oi := { dst := some 95, op := Op.move (Operand.tmp 5), type := 40, pos := "ref.go:112", after := #[{ on := 12, ground := Ground.guard }], guard := some (12, true) }) (v := undef) rfl (by kernel_rfl) (by kernel_rfl) (by kernel_rfl) (fun _ _ _ h => h) (Or.inr ⟨by rfl, rfl⟩) (by assumption) ?_
           try simp only [Act.put, List.setIfInBounds_toArray, List.set_cons_zero, List.set_cons_succ]
           refine wpAnyH_take (i := 18) (oi := { dst := some 96, op := Op.move (Operand.tmp 8), type := 3, pos := "ref.go:112", after := #[{ on := 12, ground := Ground.guard }], guard := some (12, true) }) (v := undef) rfl (by kernel_rfl) (by kernel_rfl) (by kernel_rfl) (fun _ _ _ h => h) (Or.inr ⟨by rfl, rfl⟩) (by assumption) ?_
           try simp only [Act.put, List.setIfInBounds_toArray, List.set_cons_zero, List.set_cons_succ]
           refine wpAnyH_take (i := 19) (oi := { dst := some 97, op := Op.indexAddr 40 (Operand.tmp 95) (Operand.tmp 96), type := 0, pos := "ref.go:112", after := #[{ on := 17, ground := Ground.data }, { on := 18, ground := Ground.data }, { on := 12, ground := Ground.guard }], guard := some (12, true) }) (v := undef) rfl (by kernel_rfl) (by kernel_rfl) (by kernel_rfl) (fun _ _ _ h => h) (Or.inr ⟨by rfl, rfl⟩) (by assumption) ?_
           try simp only [Act.put, List.setIfInBounds_toArray, List.set_cons_zero, List.set_cons_succ]
           refine wpAnyH_take (i := 20) (oi := { dst := some 98, op := Op.load 3 (Operand.tmp 97), type := 3, pos := "ref.go:112", after := #[{ on := 19, ground := Ground.data }, { on := 12, ground := Ground.guard }], guard := some (12, true) }) (v := undef) rfl (by kernel_rfl) (by kernel_rfl) (by kernel_rfl) (fun _ _ _ h => h) (Or.inr ⟨by rfl, rfl⟩) (by assumption) ?_
           try simp only [Act.put, List.setIfInBounds_toArray, List.set_cons_zero, List.set_cons_succ]
           refine wpAnyH_take (i := 21) (oi := { dst := some 99, op := Op.binOp BinOp.lss 3 (Operand.tmp 94) (Operand.tmp 98) 3, type := 4, pos := "ref.go:112", after := #[{ on := 16, ground := Ground.data }, { on := 20, ground := Ground.data }, { on := 12, ground := Ground.guard }], guard := some (12, true) }) (v := undef) rfl (by kernel_rfl) (by kernel_rfl) (by kernel_rfl) (fun _ _ _ h => h) (Or.inr ⟨by rfl, rfl⟩) (by assumption) ?_
           try simp only [Act.put, List.setIfInBounds_toArray, List.set_cons_zero, List.set_cons_succ]
           refine wpAnyH_take (i := 22) (oi := { dst := some 100, op := Op.pick (Operand.tmp 90) (Operand.tmp 99) (Operand.const (Value.bool false)), type := 4, pos := "ref.go:112", after := #[{ on := 12, ground := Ground.data }, { on := 21, ground := Ground.data }], guard := none }) (v := ?pcv22) rfl (by kernel_rfl) (by kernel_rfl) (by kernel_rfl) (fun _ _ _ h => h) (Or.inl ⟨by rfl, ?pch22⟩) (by assumption) ?pcr22
           case pch22 => ((intro w hSw; (try dsimp only at hSw); go_simp); try with_reducible rfl)
           try simp only [Act.put, List.setIfInBounds_toArray, List.set_cons_zero, List.set_cons_succ]
           refine wpAnyH_take (i := 23) (oi := { dst := some 101, op := Op.move (Operand.tmp 100), type := 4, pos := "ref.go:112", after := #[{ on := 22, ground := Ground.data }, { on := 12, ground := Ground.chain }], guard := none }) (v := ?pcv23) rfl (by kernel_rfl) (by kernel_rfl) (by kernel_rfl) (fun _ _ _ h => h) (Or.inl ⟨by rfl, ?pch23⟩) (by assumption) ?pcr23
           case pch23 => ((intro w hSw; (try dsimp only at hSw); go_simp); try with_reducible rfl)
           try simp only [Act.put, List.setIfInBounds_toArray, List.set_cons_zero, List.set_cons_succ]
           refine wpAnyH_take (i := 24) (oi := { dst := some 102, op := Op.move (Operand.tmp 0), type := 32, pos := "ref.go:112", after := #[{ on := 23, ground := Ground.guard }], guard := some (23, true) }) (v := undef) rfl (by kernel_rfl) (by kernel_rfl) (by kernel_rfl) (fun _ _ _ h => h) (Or.inr ⟨by rfl, rfl⟩) (by assumption) ?_
           try simp only [Act.put, List.setIfInBounds_toArray, List.set_cons_zero, List.set_cons_succ]
           refine wpAnyH_take (i := 25) (oi := { dst := some 103, op := Op.move (Operand.tmp 8), type := 3, pos := "ref.go:112", after := #[{ on := 23, ground := Ground.guard }], guard := some (23, true) }) (v := undef) rfl (by kernel_rfl) (by kernel_rfl) (by kernel_rfl) (fun _ _ _ h => h) (Or.inr ⟨by rfl, rfl⟩) (by assumption) ?_
           try simp only [Act.put, List.setIfInBounds_toArray, List.set_cons_zero, List.set_cons_succ]
           refine wpAnyH_take (i := 26) (oi := { dst := some 104, op := Op.indexAddr 32 (Operand.tmp 102) (Operand.tmp 103), type := 0, pos := "ref.go:112", after := #[{ on := 24, ground := Ground.data }, { on := 25, ground := Ground.data }, { on := 23, ground := Ground.guard }], guard := some (23, true) }) (v := undef) rfl (by kernel_rfl) (by kernel_rfl) (by kernel_rfl) (fun _ _ _ h => h) (Or.inr ⟨by rfl, rfl⟩) (by assumption) ?_
           try simp only [Act.put, List.setIfInBounds_toArray, List.set_cons_zero, List.set_cons_succ]
           refine wpAnyH_take (i := 27) (oi := { dst := some 105, op := Op.load 35 (Operand.tmp 104), type := 35, pos := "ref.go:112", after := #[{ on := 26, ground := Ground.data }, { on := 23, ground := Ground.guard }], guard := some (23, true) }) (v := undef) rfl (by kernel_rfl) (by kernel_rfl) (by kernel_rfl) (fun _ _ _ h => h) (Or.inr ⟨by rfl, rfl⟩) (by assumption) ?_
           try simp only [Act.put, List.setIfInBounds_toArray, List.set_cons_zero, List.set_cons_succ]
           refine wpAnyH_take (i := 28) (oi := { dst := some 106, op := Op.move (Operand.tmp 0), type := 32, pos := "ref.go:112", after := #[{ on := 23, ground := Ground.guard }], guard := some (23, true) }) (v := undef) rfl (by kernel_rfl) (by kernel_rfl) (by kernel_rfl) (fun _ _ _ h => h) (Or.inr ⟨by rfl, rfl⟩) (by assumption) ?_
           try simp only [Act.put, List.setIfInBounds_toArray, List.set_cons_zero, List.set_cons_succ]
           refine wpAnyH_take (i := 29) (oi := { dst := some 107, op := Op.move (Operand.tmp 9), type := 3, pos := "ref.go:112", after := #[{ on := 23, ground := Ground.guard }], guard := some (23, true) }) (v := undef) rfl (by kernel_rfl) (by kernel_rfl) (by kernel_rfl) (fun _ _ _ h => h) (Or.inr ⟨by rfl, rfl⟩) (by assumption) ?_
           try simp only [Act.put, List.setIfInBounds_toArray, List.set_cons_zero, List.set_cons_succ]
           refine wpAnyH_take (i := 30) (oi := { dst := some 108, op := Op.indexAddr 32 (Operand.tmp 106) (Operand.tmp 107), type := 0, pos := "ref.go:112", after := #[{ on := 28, ground := Ground.data }, { on := 29, ground := Ground.data }, { on := 23, ground := Ground.guard }], guard := some (23, true) }) (v := undef) rfl (by kernel_rfl) (by kernel_rfl) (by kernel_rfl) (fun _ _ _ h => h) (Or.inr ⟨by rfl, rfl⟩) (by assumption) ?_
           try simp only [Act.put, List.setIfInBounds_toArray, List.set_cons_zero, List.set_cons_succ]
           refine wpAnyH_take (i := 31) (oi := { dst := some 109, op := Op.load 35 (Operand.tmp 108), type := 35, pos := "ref.go:112", after := #[{ on := 30, ground := Ground.data }, { on := 23, ground := Ground.guard }], guard := some (23, true) }) (v := undef) rfl (by kernel_rfl) (by kernel_rfl) (by kernel_rfl) (fun _ _ _ h => h) (Or.inr ⟨by rfl, rfl⟩) (by assumption) ?_
           try simp only [Act.put, List.setIfInBounds_toArray, List.set_cons_zero, List.set_cons_succ]
           refine wpAnyH_take (i := 32) (oi := { dst := some 110, op := Op.call { callee := Callee.value (Operand.func 35), args := #[Operand.tmp 105, Operand.tmp 109], argTypes := #[35, 35] }, type := 4, pos := "ref.go:112", after := #[{ on := 27, ground := Ground.data }, { on := 31, ground := Ground.data }, { on := 23, ground := Ground.chain }, { on := 23, ground := Ground.guard }], guard := some (23, true) }) (v := undef) rfl (by kernel_rfl) (by kernel_rfl) (by kernel_rfl) (fun _ _ _ h => h) (Or.inr ⟨by rfl, rfl⟩) (by assumption) ?_
           try simp only [Act.put, List.setIfInBounds_toArray, List.set_cons_zero, List.set_cons_succ]
           refine wpAnyH_take (i := 33) (oi := { dst := some 111, op := Op.pick (Operand.tmp 101) (Operand.tmp 110) (Operand.const (Value.bool false)), type := 4, pos := "ref.go:112", after := #[{ on := 23, ground := Ground.data }, { on := 32, ground := Ground.data }], guard := none }) (v := ?pcv33) rfl (by kernel_rfl) (by kernel_rfl) (by kernel_rfl) (fun _ _ _ h => h) (Or.inl ⟨by rfl, ?pch33⟩) (by assumption) ?pcr33
           case pch33 => ((intro w hSw; (try dsimp only at hSw); go_simp); try with_reducible rfl)
           try simp only [Act.put, List.setIfInBounds_toArray, List.set_cons_zero, List.set_cons_succ]
           refine wpAnyH_done (by kernel_rfl) ?_ _
           go_wp2_with fail
           go_meet
           exact ⟨rfl, by assumption⟩
         ·have g1c : pi = 0 := by omega
          subst g1c
          refine wp_region_held_drew (S := fun w' => Below wr.heap.size wr w') (by kernel_rfl) ((Below.refl _ _).drew) (fun hHeld => ?_)
          refine wpAnyH_take (i := 0) (oi := { dst := some 78, op := Op.move (Operand.tmp 5), type := 40, pos := "ref.go:112", after := #[], guard := none }) (v := ?pdv0) rfl (by kernel_rfl) (by kernel_rfl) (by kernel_rfl) (fun _ _ _ h => h) (Or.inl ⟨by rfl, ?pdh0⟩) (by assumption) ?pdr0
          case pdh0 => ((intro w hSw; (try dsimp only at hSw); go_simp); try with_reducible rfl)
          try simp only [Act.put, List.setIfInBounds_toArray, List.set_cons_zero, List.set_cons_succ]
          refine wpAnyH_take (i := 1) (oi := { dst := some 79, op := Op.move (Operand.tmp 8), type := 3, pos := "ref.go:112", after := #[], guard := none }) (v := ?pdv1) rfl (by kernel_rfl) (by kernel_rfl) (by kernel_rfl) (fun _ _ _ h => h) (Or.inl ⟨by rfl, ?pdh1⟩) (by assumption) ?pdr1
          case pdh1 => ((intro w hSw; (try dsimp only at hSw); go_simp); try with_reducible rfl)
          try simp only [Act.put, List.setIfInBounds_toArray, List.set_cons_zero, List.set_cons_succ]
          refine wpAnyH_take (i := 2) (oi := { dst := some 80, op := Op.indexAddr 40 (Operand.tmp 78) (Operand.tmp 79), type := 0, pos := "ref.go:112", after := #[{ on := 0, ground := Ground.data }, { on := 1, ground := Ground.data }], guard := none }) (v := ?pdv2) rfl (by kernel_rfl) (by kernel_rfl) (by kernel_rfl) (fun _ _ _ h => h) (Or.inl ⟨by rfl, ?pdh2⟩) (by assumption) ?pdr2
          case pdh2 => ((intro w hSw; (try dsimp only at hSw); go_simp); try with_reducible rfl)
          try simp only [Act.put, List.setIfInBounds_toArray, List.set_cons_zero, List.set_cons_succ]
          refine wpAnyH_take (i := 3) (oi := { dst := some 81, op := Op.load 3 (Operand.tmp 80), type := 3, pos := "ref.go:112", after := #[{ on := 2, ground := Ground.data }], guard := none }) (v := ?pdv3) rfl (by kernel_rfl) (by kernel_rfl) (by kernel_rfl) (fun _ _ _ h => h) (Or.inl ⟨by rfl, ?pdh3⟩) (by assumption) ?pdr3
          case pdh3 => ((intro w hSw; (try dsimp only at hSw); go_simp); try with_reducible rfl)
          try simp only [Act.put, List.setIfInBounds_toArray, List.set_cons_zero, List.set_cons_succ]
          refine wpAnyH_take (i := 4) (oi := { dst := some 82, op := Op.binOp BinOp.gtr 3 (Operand.tmp 81) (Operand.const (Value.int IntKind.i64 0)) 3, type := 4, pos := "ref.go:112", after := #[{ on := 3, ground := Ground.data }], guard := none }) (v := ?pdv4) rfl (by kernel_rfl) (by kernel_rfl) (by kernel_rfl) (fun _ _ _ h => h) (Or.inl ⟨by rfl, ?pdh4⟩) (by assumption) ?pdr4
          case pdh4 => ((intro w hSw; (try dsimp only at hSw); go_simp); try with_reducible rfl)
          try simp only [Act.put, List.setIfInBounds_toArray, List.set_cons_zero, List.set_cons_succ]
          refine wpAnyH_take (i := 5) (oi := { dst := some 83, op := Op.move (Operand.tmp 82), type := 4, pos := "ref.go:112", after := #[{ on := 4, ground := Ground.data }], guard := none }) (v := ?pdv5) rfl (by kernel_rfl) (by kernel_rfl) (by kernel_rfl) (fun _ _ _ h => h) (Or.inl ⟨by rfl, ?pdh5⟩) (by assumption) ?pdr5
          case pdh5 => ((intro w hSw; (try dsimp only at hSw); go_simp); try with_reducible rfl)
          try simp only [Act.put, List.setIfInBounds_toArray, List.set_cons_zero, List.set_cons_succ]
          refine wpAnyH_take (i := 6) (oi := { dst := some 84, op := Op.move (Operand.tmp 5), type := 40, pos := "ref.go:112", after := #[{ on := 5, ground := Ground.guard }], guard := some (5, true) }) (v := undef) rfl (by kernel_rfl) (by kernel_rfl) (by kernel_rfl) (fun _ _ _ h => h) (Or.inr ⟨by rfl, rfl⟩) (by assumption) ?_
          try simp only [Act.put, List.setIfInBounds_toArray, List.set_cons_zero, List.set_cons_succ]
          refine wpAnyH_take (i := 7) (oi := { dst := some 85, op := Op.move (Operand.tmp 9), type := 3, pos := "ref.go:112", after := #[{ on := 5, ground := Ground.guard }], guard := some (5, true) }) (v := undef) rfl (by kernel_rfl) (by kernel_rfl) (by kernel_rfl) (fun _ _ _ h => h) (Or.inr ⟨by rfl, rfl⟩) (by assumption) ?_
          try simp only [Act.put, List.setIfInBounds_toArray, List.set_cons_zero, List.set_cons_succ]
          refine wpAnyH_take (i := 8) (oi := { dst := some 86, op := Op.indexAddr 40 (Operand.tmp 84) (Operand.tmp 85), type := 0, pos := "ref.go:112", after := #[{ on := 6, ground := Ground.data }, { on := 7, ground := Ground.data }, { on := 5, ground := Ground.guard }], guard := some (5, true) }) (v := undef) rfl (by kernel_rfl) (by kernel_rfl) (by kernel_rfl) (fun _ _ _ h => h) (Or.inr ⟨by rfl, rfl⟩) (by assumption) ?_
          try simp only [Act.put, List.setIfInBounds_toArray, List.set_cons_zero, List.set_cons_succ]
          refine wpAnyH_take (i := 9) (oi := { dst := some 87, op := Op.load 3 (Operand.tmp 86), type := 3, pos := "ref.go:112", after := #[{ on := 8, ground := Ground.data }, { on := 5, ground := Ground.guard }], guard := some (5, true) }) (v := undef) rfl (by kernel_rfl) (by kernel_rfl) (by kernel_rfl) (fun _ _ _ h => h) (Or.inr ⟨by rfl, rfl⟩) (by assumption) ?_
          try simp only [Act.put, List.setIfInBounds_toArray, List.set_cons_zero, List.set_cons_succ]
          refine wpAnyH_take (i := 10) (oi := { dst := some 88, op := Op.binOp BinOp.gtr 3 (Operand.tmp 87) (Operand.const (Value.int IntKind.i64 0)) 3, type := 4, pos := "ref.go:112", after := #[{ on := 9, ground := Ground.data }, { on := 5, ground := Ground.guard }], guard := some (5, true) }) (v := undef) rfl (by kernel_rfl) (by kernel_rfl) (by kernel_rfl) (fun _ _ _ h => h) (Or.inr ⟨by rfl, rfl⟩) (by assumption) ?_
          try simp only [Act.put, List.setIfInBounds_toArray, List.set_cons_zero, List.set_cons_succ]
          refine wpAnyH_take (i := 11) (oi := { dst := some 89, op := Op.pick (Operand.tmp 83) (Operand.tmp 88) (Operand.const (Value.bool false)), type := 4, pos := "ref.go:112", after := #[{ on := 5, ground := Ground.data }, { on := 10, ground := Ground.data }], guard := none }) (v := ?pdv11) rfl (by kernel_rfl) (by kernel_rfl) (by kernel_rfl) (fun _ _ _ h => h) (Or.inl ⟨by rfl, ?pdh11⟩) (by assumption) ?pdr11
          case pdh11 => ((intro w hSw; (try dsimp only at hSw); go_simp); try with_reducible rfl)
          try simp only [Act.put, List.setIfInBounds_toArray, List.set_cons_zero, List.set_cons_succ]
          refine wpAnyH_take (i := 12) (oi := { dst := some 90, op := Op.move (Operand.tmp 89), type := 4, pos := "ref.go:112", after := #[{ on := 11, ground := Ground.data }, { on := 5, ground := Ground.chain }], guard := none }) (v := ?pdv12) rfl (by kernel_rfl) (by kernel_rfl) (by kernel_rfl) (fun _ _ _ h => h) (Or.inl ⟨by rfl, ?pdh12⟩) (by assumption) ?pdr12
          case pdh12 => ((intro w hSw; (try dsimp only at hSw); go_simp); try with_reducible rfl)
          try simp only [Act.put, List.setIfInBounds_toArray, List.set_cons_zero, List.set_cons_succ]
          refine wpAnyH_take (i := 13) (oi := { dst := some 91, op := Op.move (Operand.tmp 5), type := 40, pos := "ref.go:112", after := #[{ on := 12, ground := Ground.guard }], guard := some (12, true) }) (v := undef) rfl (by kernel_rfl) (by kernel_rfl) (by kernel_rfl) (fun _ _ _ h => h) (Or.inr ⟨by rfl, rfl⟩) (by assumption) ?_
          try simp only [Act.put, List.setIfInBounds_toArray, List.set_cons_zero, List.set_cons_succ]
          refine wpAnyH_take (i := 14) (oi := { dst := some 92, op := Op.move (Operand.tmp 9), type := 3, pos := "ref.go:112", after := #[{ on := 12, ground := Ground.guard }], guard := some (12, true) }) (v := undef) rfl (by kernel_rfl) (by kernel_rfl) (by kernel_rfl) (fun _ _ _ h => h) (Or.inr ⟨by rfl, rfl⟩) (by assumption) ?_
          try simp only [Act.put, List.setIfInBounds_toArray, List.set_cons_zero, List.set_cons_succ]
          refine wpAnyH_take (i := 15) (oi := { dst := some 93, op := Op.indexAddr 40 (Operand.tmp 91) (Operand.tmp 92), type := 0, pos := "ref.go:112", after := #[{ on := 13, ground := Ground.data }, { on := 14, ground := Ground.data }, { on := 12, ground := Ground.guard }], guard := some (12, true) }) (v := undef) rfl (by kernel_rfl) (by kernel_rfl) (by kernel_rfl) (fun _ _ _ h => h) (Or.inr ⟨by rfl, rfl⟩) (by assumption) ?_
          try simp only [Act.put, List.setIfInBounds_toArray, List.set_cons_zero, List.set_cons_succ]
          refine wpAnyH_take (i := 16) (oi := { dst := some 94, op := Op.load 3 (Operand.tmp 93), type := 3, pos := "ref.go:112", after := #[{ on := 15, ground := Ground.data }, { on := 12, ground := Ground.guard }], guard := some (12, true) }) (v := undef) rfl (by kernel_rfl) (by kernel_rfl) (by kernel_rfl) (fun _ _ _ h => h) (Or.inr ⟨by rfl, rfl⟩) (by assumption) ?_
          try simp only [Act.put, List.setIfInBounds_toArray, List.set_cons_zero, List.set_cons_succ]
          refine wpAnyH_take (i := 17) (oi := { dst := some 95, op := Op.move (Operand.tmp 5), type := 40, pos := "ref.go:112", after := #[{ on := 12, ground := Ground.guard }], guard := some (12, true) }) (v := undef) rfl (by kernel_rfl) (by kernel_rfl) (by kernel_rfl) (fun _ _ _ h => h) (Or.inr ⟨by rfl, rfl⟩) (by assumption) ?_
          try simp only [Act.put, List.setIfInBounds_toArray, List.set_cons_zero, List.set_cons_succ]
          refine wpAnyH_take (i := 18) (oi := { dst := some 96, op := Op.move (Operand.tmp 8), type := 3, pos := "ref.go:112", after := #[{ on := 12, ground := Ground.guard }], guard := some (12, true) }) (v := undef) rfl (by kernel_rfl) (by kernel_rfl) (by kernel_rfl) (fun _ _ _ h => h) (Or.inr ⟨by rfl, rfl⟩) (by assumption) ?_
          try simp only [Act.put, List.setIfInBounds_toArray, List.set_cons_zero, List.set_cons_succ]
          refine wpAnyH_take (i := 19) (oi := { dst := some 97, op := Op.indexAddr 40 (Operand.tmp 95) (Operand.tmp 96), type := 0, pos := "ref.go:112", after := #[{ on := 17, ground := Ground.data }, { on := 18, ground := Ground.data }, { on := 12, ground := Ground.guard }], guard := some (12, true) }) (v := undef) rfl (by kernel_rfl) (by kernel_rfl) (by kernel_rfl) (fun _ _ _ h => h) (Or.inr ⟨by rfl, rfl⟩) (by assumption) ?_
          try simp only [Act.put, List.setIfInBounds_toArray, List.set_cons_zero, List.set_cons_succ]
          refine wpAnyH_take (i := 20) (oi := { dst := some 98, op := Op.load 3 (Operand.tmp 97), type := 3, pos := "ref.go:112", after := #[{ on := 19, ground := Ground.data }, { on := 12, ground := Ground.guard }], guard := some (12, true) }) (v := undef) rfl (by kernel_rfl) (by kernel_rfl) (by kernel_rfl) (fun _ _ _ h => h) (Or.inr ⟨by rfl, rfl⟩) (by assumption) ?_
          try simp only [Act.put, List.setIfInBounds_toArray, List.set_cons_zero, List.set_cons_succ]
          refine wpAnyH_take (i := 21) (oi := { dst := some 99, op := Op.binOp BinOp.lss 3 (Operand.tmp 94) (Operand.tmp 98) 3, type := 4, pos := "ref.go:112", after := #[{ on := 16, ground := Ground.data }, { on := 20, ground := Ground.data }, { on := 12, ground := Ground.guard }], guard := some (12, true) }) (v := undef) rfl (by kernel_rfl) (by kernel_rfl) (by kernel_rfl) (fun _ _ _ h => h) (Or.inr ⟨by rfl, rfl⟩) (by assumption) ?_
          try simp only [Act.put, List.setIfInBounds_toArray, List.set_cons_zero, List.set_cons_succ]
          refine wpAnyH_take (i := 22) (oi := { dst := some 100, op := Op.pick (Operand.tmp 90) (Operand.tmp 99) (Operand.const (Value.bool false)), type := 4, pos := "ref.go:112", after := #[{ on := 12, ground := Ground.data }, { on := 21, ground := Ground.data }], guard := none }) (v := ?pdv22) rfl (by kernel_rfl) (by kernel_rfl) (by kernel_rfl) (fun _ _ _ h => h) (Or.inl ⟨by rfl, ?pdh22⟩) (by assumption) ?pdr22
          case pdh22 => ((intro w hSw; (try dsimp only at hSw); go_simp); try with_reducible rfl)
          try simp only [Act.put, List.setIfInBounds_toArray, List.set_cons_zero, List.set_cons_succ]
          refine wpAnyH_take (i := 23) (oi := { dst := some 101, op := Op.move (Operand.tmp 100), type := 4, pos := "ref.go:112", after := #[{ on := 22, ground := Ground.data }, { on := 12, ground := Ground.chain }], guard := none }) (v := ?pdv23) rfl (by kernel_rfl) (by kernel_rfl) (by kernel_rfl) (fun _ _ _ h => h) (Or.inl ⟨by rfl, ?pdh23⟩) (by assumption) ?pdr23
          case pdh23 => ((intro w hSw; (try dsimp only at hSw); go_simp); try with_reducible rfl)
          try simp only [Act.put, List.setIfInBounds_toArray, List.set_cons_zero, List.set_cons_succ]
          refine wpAnyH_take (i := 24) (oi := { dst := some 102, op := Op.move (Operand.tmp 0), type := 32, pos := "ref.go:112", after := #[{ on := 23, ground := Ground.guard }], guard := some (23, true) }) (v := undef) rfl (by kernel_rfl) (by kernel_rfl) (by kernel_rfl) (fun _ _ _ h => h) (Or.inr ⟨by rfl, rfl⟩) (by assumption) ?_
          try simp only [Act.put, List.setIfInBounds_toArray, List.set_cons_zero, List.set_cons_succ]
          refine wpAnyH_take (i := 25) (oi := { dst := some 103, op := Op.move (Operand.tmp 8), type := 3, pos := "ref.go:112", after := #[{ on := 23, ground := Ground.guard }], guard := some (23, true) }) (v := undef) rfl (by kernel_rfl) (by kernel_rfl) (by kernel_rfl) (fun _ _ _ h => h) (Or.inr ⟨by rfl, rfl⟩) (by assumption) ?_
          try simp only [Act.put, List.setIfInBounds_toArray, List.set_cons_zero, List.set_cons_succ]
          refine wpAnyH_take (i := 26) (oi := { dst := some 104, op := Op.indexAddr 32 (Operand.tmp 102) (Operand.tmp 103), type := 0, pos := "ref.go:112", after := #[{ on := 24, ground := Ground.data }, { on := 25, ground := Ground.data }, { on := 23, ground := Ground.guard }], guard := some (23, true) }) (v := undef) rfl (by kernel_rfl) (by kernel_rfl) (by kernel_rfl) (fun _ _ _ h => h) (Or.inr ⟨by rfl, rfl⟩) (by assumption) ?_
          try simp only [Act.put, List.setIfInBounds_toArray, List.set_cons_zero, List.set_cons_succ]
          refine wpAnyH_take (i := 27) (oi := { dst := some 105, op := Op.load 35 (Operand.tmp 104), type := 35, pos := "ref.go:112", after := #[{ on := 26, ground := Ground.data }, { on := 23, ground := Ground.guard }], guard := some (23, true) }) (v := undef) rfl (by kernel_rfl) (by kernel_rfl) (by kernel_rfl) (fun _ _ _ h => h) (Or.inr ⟨by rfl, rfl⟩) (by assumption) ?_
          try simp only [Act.put, List.setIfInBounds_toArray, List.set_cons_zero, List.set_cons_succ]
          refine wpAnyH_take (i := 28) (oi := { dst := some 106, op := Op.move (Operand.tmp 0), type := 32, pos := "ref.go:112", after := #[{ on := 23, ground := Ground.guard }], guard := some (23, true) }) (v := undef) rfl (by kernel_rfl) (by kernel_rfl) (by kernel_rfl) (fun _ _ _ h => h) (Or.inr ⟨by rfl, rfl⟩) (by assumption) ?_
          try simp only [Act.put, List.setIfInBounds_toArray, List.set_cons_zero, List.set_cons_succ]
          refine wpAnyH_take (i := 29) (oi := { dst := some 107, op := Op.move (Operand.tmp 9), type := 3, pos := "ref.go:112", after := #[{ on := 23, ground := Ground.guard }], guard := some (23, true) }) (v := undef) rfl (by kernel_rfl) (by kernel_rfl) (by kernel_rfl) (fun _ _ _ h => h) (Or.inr ⟨by rfl, rfl⟩) (by assumption) ?_
          try simp only [Act.put, List.setIfInBounds_toArray, List.set_cons_zero, List.set_cons_succ]
          refine wpAnyH_take (i := 30) (oi := { dst := some 108, op := Op.indexAddr 32 (Operand.tmp 106) (Operand.tmp 107), type := 0, pos := "ref.go:112", after := #[{ on := 28, ground := Ground.data }, { on := 29, ground := Ground.data }, { on := 23, ground := Ground.guard }], guard := some (23, true) }) (v := undef) rfl (by kernel_rfl) (by kernel_rfl) (by kernel_rfl) (fun _ _ _ h => h) (Or.inr ⟨by rfl, rfl⟩) (by assumption) ?_
          try simp only [Act.put, List.setIfInBounds_toArray, List.set_cons_zero, List.set_cons_succ]
          refine wpAnyH_take (i := 31) (oi := { dst := some 109, op := Op.load 35 (Operand.tmp 108), type := 35, pos := "ref.go:112", after := #[{ on := 30, ground := Ground.data }, { on := 23, ground := Ground.guard }], guard := some (23, true) }) (v := undef) rfl (by kernel_rfl) (by kernel_rfl) (by kernel_rfl) (fun _ _ _ h => h) (Or.inr ⟨by rfl, rfl⟩) (by assumption) ?_
          try simp only [Act.put, List.setIfInBounds_toArray, List.set_cons_zero, List.set_cons_succ]
          refine wpAnyH_take (i := 32) (oi := { dst := some 110, op := Op.call { callee := Callee.value (Operand.func 35), args := #[Operand.tmp 105, Operand.tmp 109], argTypes := #[35, 35] }, type := 4, pos := "ref.go:112", after := #[{ on := 27, ground := Ground.data }, { on := 31, ground := Ground.data }, { on := 23, ground := Ground.chain }, { on := 23, ground := Ground.guard }], guard := some (23, true) }) (v := undef) rfl (by kernel_rfl) (by kernel_rfl) (by kernel_rfl) (fun _ _ _ h => h) (Or.inr ⟨by rfl, rfl⟩) (by assumption) ?_
          try simp only [Act.put, List.setIfInBounds_toArray, List.set_cons_zero, List.set_cons_succ]
          refine wpAnyH_take (i := 33) (oi := { dst := some 111, op := Op.pick (Operand.tmp 101) (Operand.tmp 110) (Operand.const (Value.bool false)), type := 4, pos := "ref.go:112", after := #[{ on := 23, ground := Ground.data }, { on := 32, ground := Ground.data }], guard := none }) (v := ?pdv33) rfl (by kernel_rfl) (by kernel_rfl) (by kernel_rfl) (fun _ _ _ h => h) (Or.inl ⟨by rfl, ?pdh33⟩) (by assumption) ?pdr33
          case pdh33 => ((intro w hSw; (try dsimp only at hSw); go_simp); try with_reducible rfl)
          try simp only [Act.put, List.setIfInBounds_toArray, List.set_cons_zero, List.set_cons_succ]
          refine wpAnyH_done (by kernel_rfl) ?_ _
          go_wp2_with fail
          go_meet
          exact ⟨rfl, by assumption⟩
        case rest =>
         obtain ⟨rfl, hbc⟩ := hcut
         have hbw := below_tr hbc HB4.out
         clear a0 a1 a2 a3 a4 a5 a6 a7 d0 d1 d2 d3 d4 d5 d6 d7 z0 z1
         go_wp2
         exact ⟨⟨k + 1, by omega, by go_num, hbw⟩, by simp [intOf]; omega⟩
       ·have hke : k = l.length := by omega
        subst hke
        go_wp2
        exact ⟨⟨i + 1, by omega, by go_num, HB4.out⟩, by simp [intOf]; omega⟩
     ·have hp0 := HPI.out (by omega)
      have hp1 : ((pi : Int) == 0) = false := by simpa using (by omega : ¬ (pi : Int) = 0)
      have hp2 : (pi == 0) = false := by simpa using (by omega : ¬ pi = 0)
      go_wp2
      go_loopw [9] (fun u wr => ∃ k : Nat, k ≤ l.length ∧ u = .int .i64 k ∧ Below W5.heap.size W5 wr) (fun u _ => l.length - (intOf u).toNat)
      case atStart => exact ⟨0, Nat.zero_le _, rfl, HB3.out⟩
      case round =>
       obtain ⟨k, hk, rfl, hb⟩ := hrel
       have HB4 := hid hb
       clear hb
       by_cases hlt3 : k < l.length
       ·have hbw := HB.out.trans (HB4.out.mono hz5)
        obtain ⟨a0, a1, a2, a3, a4, a5, a6, a7⟩ := cl_held (HR.out.below hbw) i hlt2
        obtain ⟨d0, d1, d2, d3, d4, d5, d6, d7⟩ := cl_held (HR.out.below hbw) k hlt3
        have z0 := nat_held (HPR.out.below HB4.out) i (by rw [plTo_len]; exact hlt2)
        have z1 := nat_held (HPR.out.below HB4.out) k (by rw [plTo_len]; exact hlt3)
        rw [plTo_get hlt2, HTK.out, HPE.out] at z0
        rw [plTo_get hlt3, HTK.out] at z1
        simp only [Nat.zero_add] at z0 z1
        have HA := hid (fun w1 => rahead_lit (cAt l i) (cAt l k) w1)
        have HNO := hid (fun (h1 : 0 < pi) (h2 : 0 < placeOf o k) (h3 : placeOf o k < pi) => place_ahead HL.out (i := i) (k := k) (place_pos.1 (by rw [HPE.out]; exact h1)) (place_pos.1 h2) (by rw [HPE.out]; exact h3))
        have hpk := place_le o k
        generalize placeOf o k = pk at z1 HNO hpk
        clear hbw
        have hq1 : decide ((i : Int) < 0) = false := decide_eq_false (by omega)
        have hq2 : decide ((l.length : Int) ≤ (i : Int)) = false := decide_eq_false (by omega)
        have hq3 : decide (l.length ≤ i) = false := decide_eq_false (by omega)
        have hx1 : decide ((k : Int) < 0) = false := decide_eq_false (by omega)
        have hx2 : decide ((l.length : Int) ≤ (k : Int)) = false := decide_eq_false (by omega)
        have hx3 : decide (l.length ≤ k) = false := decide_eq_false (by omega)
        go_upto_region 19 with (fail)
        go_cut [111] from 78 to 111 (fun v wx => v = .bool false ∧ Below wr.heap.size wr wx)
        case first =>
         by_cases g1 : 0 < pi
         ·have g1a : decide ((0 : Int) < (pi : Int)) = true := decide_eq_true (by omega)
          have g1b : decide (0 < pi) = true := decide_eq_true g1
          by_cases g2 : 0 < pk
          ·have g2a : decide ((0 : Int) < (pk : Int)) = true := decide_eq_true (by omega)
           have g2b : decide (0 < pk) = true := decide_eq_true g2
           by_cases g3 : pk < pi
           ·have g3a : decide ((pk : Int) < (pi : Int)) = true := decide_eq_true (by omega)
            have g3b : decide (pk < pi) = true := decide_eq_true g3
            rw [HNO.out g1 g2 g3] at HA
            refine wp_region_held_drew (S := fun w' => Below wr.heap.size wr w') (by kernel_rfl) ((Below.refl _ _).drew) (fun hHeld => ?_)
            refine wpAnyH_take (i := 0) (oi := { dst := some 78, op := Op.move (Operand.tmp 5), type := 40, pos := "ref.go:112", after := #[], guard := none }) (v := ?qav0) rfl (by kernel_rfl) (by kernel_rfl) (by kernel_rfl) (fun _ _ _ h => h) (Or.inl ⟨by rfl, ?qah0⟩) (by assumption) ?qar0
            case qah0 => ((intro w hSw; (try dsimp only at hSw); go_simp); try with_reducible rfl)
            try simp only [Act.put, List.setIfInBounds_toArray, List.set_cons_zero, List.set_cons_succ]
            refine wpAnyH_take (i := 1) (oi := { dst := some 79, op := Op.move (Operand.tmp 8), type := 3, pos := "ref.go:112", after := #[], guard := none }) (v := ?qav1) rfl (by kernel_rfl) (by kernel_rfl) (by kernel_rfl) (fun _ _ _ h => h) (Or.inl ⟨by rfl, ?qah1⟩) (by assumption) ?qar1
            case qah1 => ((intro w hSw; (try dsimp only at hSw); go_simp); try with_reducible rfl)
            try simp only [Act.put, List.setIfInBounds_toArray, List.set_cons_zero, List.set_cons_succ]
            refine wpAnyH_take (i := 2) (oi := { dst := some 80, op := Op.indexAddr 40 (Operand.tmp 78) (Operand.tmp 79), type := 0, pos := "ref.go:112", after := #[{ on := 0, ground := Ground.data }, { on := 1, ground := Ground.data }], guard := none }) (v := ?qav2) rfl (by kernel_rfl) (by kernel_rfl) (by kernel_rfl) (fun _ _ _ h => h) (Or.inl ⟨by rfl, ?qah2⟩) (by assumption) ?qar2
            case qah2 => ((intro w hSw; (try dsimp only at hSw); go_simp); try with_reducible rfl)
            try simp only [Act.put, List.setIfInBounds_toArray, List.set_cons_zero, List.set_cons_succ]
            refine wpAnyH_take (i := 3) (oi := { dst := some 81, op := Op.load 3 (Operand.tmp 80), type := 3, pos := "ref.go:112", after := #[{ on := 2, ground := Ground.data }], guard := none }) (v := ?qav3) rfl (by kernel_rfl) (by kernel_rfl) (by kernel_rfl) (fun _ _ _ h => h) (Or.inl ⟨by rfl, ?qah3⟩) (by assumption) ?qar3
            case qah3 => ((intro w hSw; (try dsimp only at hSw); go_simp); try with_reducible rfl)
            try simp only [Act.put, List.setIfInBounds_toArray, List.set_cons_zero, List.set_cons_succ]
            refine wpAnyH_take (i := 4) (oi := { dst := some 82, op := Op.binOp BinOp.gtr 3 (Operand.tmp 81) (Operand.const (Value.int IntKind.i64 0)) 3, type := 4, pos := "ref.go:112", after := #[{ on := 3, ground := Ground.data }], guard := none }) (v := ?qav4) rfl (by kernel_rfl) (by kernel_rfl) (by kernel_rfl) (fun _ _ _ h => h) (Or.inl ⟨by rfl, ?qah4⟩) (by assumption) ?qar4
            case qah4 => ((intro w hSw; (try dsimp only at hSw); go_simp); try with_reducible rfl)
            try simp only [Act.put, List.setIfInBounds_toArray, List.set_cons_zero, List.set_cons_succ]
            refine wpAnyH_take (i := 5) (oi := { dst := some 83, op := Op.move (Operand.tmp 82), type := 4, pos := "ref.go:112", after := #[{ on := 4, ground := Ground.data }], guard := none }) (v := ?qav5) rfl (by kernel_rfl) (by kernel_rfl) (by kernel_rfl) (fun _ _ _ h => h) (Or.inl ⟨by rfl, ?qah5⟩) (by assumption) ?qar5
            case qah5 => ((intro w hSw; (try dsimp only at hSw); go_simp); try with_reducible rfl)
            try simp only [Act.put, List.setIfInBounds_toArray, List.set_cons_zero, List.set_cons_succ]
            refine wpAnyH_take (i := 6) (oi := { dst := some 84, op := Op.move (Operand.tmp 5), type := 40, pos := "ref.go:112", after := #[{ on := 5, ground := Ground.guard }], guard := some (5, true) }) (v := ?qav6) rfl (by kernel_rfl) (by kernel_rfl) (by kernel_rfl) (fun _ _ _ h => h) (Or.inl ⟨by rfl, ?qah6⟩) (by assumption) ?qar6
            case qah6 => ((intro w hSw; (try dsimp only at hSw); go_simp); try with_reducible rfl)
            try simp only [Act.put, List.setIfInBounds_toArray, List.set_cons_zero, List.set_cons_succ]
            refine wpAnyH_take (i := 7) (oi := { dst := some 85, op := Op.move (Operand.tmp 9), type := 3, pos := "ref.go:112", after := #[{ on := 5, ground := Ground.guard }], guard := some (5, true) }) (v := ?qav7) rfl (by kernel_rfl) (by kernel_rfl) (by kernel_rfl) (fun _ _ _ h => h) (Or.inl ⟨by rfl, ?qah7⟩) (by assumption) ?qar7
            case qah7 => ((intro w hSw; (try dsimp only at hSw); go_simp); try with_reducible rfl)
            try simp only [Act.put, List.setIfInBounds_toArray, List.set_cons_zero, List.set_cons_succ]
            refine wpAnyH_take (i := 8) (oi := { dst := some 86, op := Op.indexAddr 40 (Operand.tmp 84) (Operand.tmp 85), type := 0, pos := "ref.go:112", after := #[{ on := 6, ground := Ground.data }, { on := 7, ground := Ground.data }, { on := 5, ground := Ground.guard }], guard := some (5, true) }) (v := ?qav8) rfl (by kernel_rfl) (by kernel_rfl) (by kernel_rfl) (fun _ _ _ h => h) (Or.inl ⟨by rfl, ?qah8⟩) (by assumption) ?qar8
            case qah8 => ((intro w hSw; (try dsimp only at hSw); go_simp); try with_reducible rfl)
            try simp only [Act.put, List.setIfInBounds_toArray, List.set_cons_zero, List.set_cons_succ]
            refine wpAnyH_take (i := 9) (oi := { dst := some 87, op := Op.load 3 (Operand.tmp 86), type := 3, pos := "ref.go:112", after := #[{ on := 8, ground := Ground.data }, { on := 5, ground := Ground.guard }], guard := some (5, true) }) (v := ?qav9) rfl (by kernel_rfl) (by kernel_rfl) (by kernel_rfl) (fun _ _ _ h => h) (Or.inl ⟨by rfl, ?qah9⟩) (by assumption) ?qar9
            case qah9 => ((intro w hSw; (try dsimp only at hSw); go_simp); try with_reducible rfl)
            try simp only [Act.put, List.setIfInBounds_toArray, List.set_cons_zero, List.set_cons_succ]
            refine wpAnyH_take (i := 10) (oi := { dst := some 88, op := Op.binOp BinOp.gtr 3 (Operand.tmp 87) (Operand.const (Value.int IntKind.i64 0)) 3, type := 4, pos := "ref.go:112", after := #[{ on := 9, ground := Ground.data }, { on := 5, ground := Ground.guard }], guard := some (5, true) }) (v := ?qav10) rfl (by kernel_rfl) (by kernel_rfl) (by kernel_rfl) (fun _ _ _ h => h) (Or.inl ⟨by rfl, ?qah10⟩) (by assumption) ?qar10
            case qah10 => ((intro w hSw; (try dsimp only at hSw); go_simp); try with_reducible rfl)
            try simp only [Act.put, List.setIfInBounds_toArray, List.set_cons_zero, List.set_cons_succ]
            refine wpAnyH_take (i := 11) (oi := { dst := some 89, op := Op.pick (Operand.tmp 83) (Operand.tmp 88) (Operand.const (Value.bool false)), type := 4, pos := "ref.go:112", after := #[{ on := 5, ground := Ground.data }, { on := 10, ground := Ground.data }], guard := none }) (v := ?qav11) rfl (by kernel_rfl) (by kernel_rfl) (by kernel_rfl) (fun _ _ _ h => h) (Or.inl ⟨by rfl, ?qah11⟩) (by assumption) ?qar11
            case qah11 => ((intro w hSw; (try dsimp only at hSw); go_simp); try with_reducible rfl)
            try simp only [Act.put, List.setIfInBounds_toArray, List.set_cons_zero, List.set_cons_succ]
            refine wpAnyH_take (i := 12) (oi := { dst := some 90, op := Op.move (Operand.tmp 89), type := 4, pos := "ref.go:112", after := #[{ on := 11, ground := Ground.data }, { on := 5, ground := Ground.chain }], guard := none }) (v := ?qav12) rfl (by kernel_rfl) (by kernel_rfl) (by kernel_rfl) (fun _ _ _ h => h) (Or.inl ⟨by rfl, ?qah12⟩) (by assumption) ?qar12
            case qah12 => ((intro w hSw; (try dsimp only at hSw); go_simp); try with_reducible rfl)
            try simp only [Act.put, List.setIfInBounds_toArray, List.set_cons_zero, List.set_cons_succ]
            refine wpAnyH_take (i := 13) (oi := { dst := some 91, op := Op.move (Operand.tmp 5), type := 40, pos := "ref.go:112", after := #[{ on := 12, ground := Ground.guard }], guard := some (12, true) }) (v := ?qav13) rfl (by kernel_rfl) (by kernel_rfl) (by kernel_rfl) (fun _ _ _ h => h) (Or.inl ⟨by rfl, ?qah13⟩) (by assumption) ?qar13
            case qah13 => ((intro w hSw; (try dsimp only at hSw); go_simp); try with_reducible rfl)
            try simp only [Act.put, List.setIfInBounds_toArray, List.set_cons_zero, List.set_cons_succ]
            refine wpAnyH_take (i := 14) (oi := { dst := some 92, op := Op.move (Operand.tmp 9), type := 3, pos := "ref.go:112", after := #[{ on := 12, ground := Ground.guard }], guard := some (12, true) }) (v := ?qav14) rfl (by kernel_rfl) (by kernel_rfl) (by kernel_rfl) (fun _ _ _ h => h) (Or.inl ⟨by rfl, ?qah14⟩) (by assumption) ?qar14
            case qah14 => ((intro w hSw; (try dsimp only at hSw); go_simp); try with_reducible rfl)
            try simp only [Act.put, List.setIfInBounds_toArray, List.set_cons_zero, List.set_cons_succ]
            refine wpAnyH_take (i := 15) (oi := { dst := some 93, op := Op.indexAddr 40 (Operand.tmp 91) (Operand.tmp 92), type := 0, pos := "ref.go:112", after := #[{ on := 13, ground := Ground.data }, { on := 14, ground := Ground.data }, { on := 12, ground := Ground.guard }], guard := some (12, true) }) (v := ?qav15) rfl (by kernel_rfl) (by kernel_rfl) (by kernel_rfl) (fun _ _ _ h => h) (Or.inl ⟨by rfl, ?qah15⟩) (by assumption) ?qar15
            case qah15 => ((intro w hSw; (try dsimp only at hSw); go_simp); try with_reducible rfl)
            try simp only [Act.put, List.setIfInBounds_toArray, List.set_cons_zero, List.set_cons_succ]
            refine wpAnyH_take (i := 16) (oi := { dst := some 94, op := Op.load 3 (Operand.tmp 93), type := 3, pos := "ref.go:112", after := #[{ on := 15, ground := Ground.data }, { on := 12, ground := Ground.guard }], guard := some (12, true) }) (v := ?qav16) rfl (by kernel_rfl) (by kernel_rfl) (by kernel_rfl) (fun _ _ _ h => h) (Or.inl ⟨by rfl, ?qah16⟩) (by assumption) ?qar16
            case qah16 => ((intro w hSw; (try dsimp only at hSw); go_simp); try with_reducible rfl)
            try simp only [Act.put, List.setIfInBounds_toArray, List.set_cons_zero, List.set_cons_succ]
            refine wpAnyH_take (i := 17) (oi := { dst := some 95, op := Op.move (Operand.tmp 5), type := 40, pos := "ref.go:112", after := #[{ on := 12, ground := Ground.guard }], guard := some (12, true) }) (v := ?qav17) rfl (by kernel_rfl) (by kernel_rfl) (by kernel_rfl) (fun _ _ _ h => h) (Or.inl ⟨by rfl, ?qah17⟩) (by assumption) ?qar17
            case qah17 => ((intro w hSw; (try dsimp only at hSw); go_simp); try with_reducible rfl)
            try simp only [Act.put, List.setIfInBounds_toArray, List.set_cons_zero, List.set_cons_succ]
            refine wpAnyH_take (i := 18) (oi := { dst := some 96, op := Op.move (Operand.tmp 8), type := 3, pos := "ref.go:112", after := #[{ on := 12, ground := Ground.guard }], guard := some (12, true) }) (v := ?qav18) rfl (by kernel_rfl) (by kernel_rfl) (by kernel_rfl) (fun _ _ _ h => h) (Or.inl ⟨by rfl, ?qah18⟩) (by assumption) ?qar18
            case qah18 => ((intro w hSw; (try dsimp only at hSw); go_simp); try with_reducible rfl)
            try simp only [Act.put, List.setIfInBounds_toArray, List.set_cons_zero, List.set_cons_succ]
            refine wpAnyH_take (i := 19) (oi := { dst := some 97, op := Op.indexAddr 40 (Operand.tmp 95) (Operand.tmp 96), type := 0, pos := "ref.go:112", after := #[{ on := 17, ground := Ground.data }, { on := 18, ground := Ground.data }, { on := 12, ground := Ground.guard }], guard := some (12, true) }) (v := ?qav19) rfl (by kernel_rfl) (by kernel_rfl) (by kernel_rfl) (fun _ _ _ h => h) (Or.inl ⟨by rfl, ?qah19⟩) (by assumption) ?qar19
            case qah19 => ((intro w hSw; (try dsimp only at hSw); go_simp); try with_reducible rfl)
            try simp only [Act.put, List.setIfInBounds_toArray, List.set_cons_zero, List.set_cons_succ]
            refine wpAnyH_take (i := 20) (oi := { dst := some 98, op := Op.load 3 (Operand.tmp 97), type := 3, pos := "ref.go:112", after := #[{ on := 19, ground := Ground.data }, { on := 12, ground := Ground.guard }], guard := some (12, true) }) (v := ?qav20) rfl (by kernel_rfl) (by kernel_rfl) (by kernel_rfl) (fun _ _ _ h => h) (Or.inl ⟨by rfl, ?qah20⟩) (by assumption) ?qar20
            case qah20 => ((intro w hSw; (try dsimp only at hSw); go_simp); try with_reducible rfl)
            try simp only [Act.put, List.setIfInBounds_toArray, List.set_cons_zero, List.set_cons_succ]
            refine wpAnyH_take (i := 21) (oi := { dst := some 99, op := Op.binOp BinOp.lss 3 (Operand.tmp 94) (Operand.tmp 98) 3, type := 4, pos := "ref.go:112", after := #[{ on := 16, ground := Ground.data }, { on := 20, ground := Ground.data }, { on := 12, ground := Ground.guard }], guard := some (12, true) }) (v := ?qav21) rfl (by kernel_rfl) (by kernel_rfl) (by kernel_rfl) (fun _ _ _ h => h) (Or.inl ⟨by rfl, ?qah21⟩) (by assumption) ?qar21
            case qah21 => ((intro w hSw; (try dsimp only at hSw); go_simp); try with_reducible rfl)
            try simp only [Act.put, List.setIfInBounds_toArray, List.set_cons_zero, List.set_cons_succ]
            refine wpAnyH_take (i := 22) (oi := { dst := some 100, op := Op.pick (Operand.tmp 90) (Operand.tmp 99) (Operand.const (Value.bool false)), type := 4, pos := "ref.go:112", after := #[{ on := 12, ground := Ground.data }, { on := 21, ground := Ground.data }], guard := none }) (v := ?qav22) rfl (by kernel_rfl) (by kernel_rfl) (by kernel_rfl) (fun _ _ _ h => h) (Or.inl ⟨by rfl, ?qah22⟩) (by assumption) ?qar22
            case qah22 => ((intro w hSw; (try dsimp only at hSw); go_simp); try with_reducible rfl)
            try simp only [Act.put, List.setIfInBounds_toArray, List.set_cons_zero, List.set_cons_succ]
            refine wpAnyH_take (i := 23) (oi := { dst := some 101, op := Op.move (Operand.tmp 100), type := 4, pos := "ref.go:112", after := #[{ on := 22, ground := Ground.data }, { on := 12, ground := Ground.chain }], guard := none }) (v := ?qav23) rfl (by kernel_rfl) (by kernel_rfl) (by kernel_rfl) (fun _ _ _ h => h) (Or.inl ⟨by rfl, ?qah23⟩) (by assumption) ?qar23
            case qah23 => ((intro w hSw; (try dsimp only at hSw); go_simp); try with_reducible rfl)
            try simp only [Act.put, List.setIfInBounds_toArray, List.set_cons_zero, List.set_cons_succ]
            refine wpAnyH_take (i := 24) (oi := { dst := some 102, op := Op.move (Operand.tmp 0), type := 32, pos := "ref.go:112", after := #[{ on := 23, ground := Ground.guard }], guard := some (23, true) }) (v := ?qav24) rfl (by kernel_rfl) (by kernel_rfl) (by kernel_rfl) (fun _ _ _ h => h) (Or.inl ⟨by rfl, ?qah24⟩) (by assumption) ?qar24
            case qah24 => ((intro w hSw; (try dsimp only at hSw); go_simp); try with_reducible rfl)
            try simp only [Act.put, List.setIfInBounds_toArray, List.set_cons_zero, List.set_cons_succ]
            refine wpAnyH_take (i := 25) (oi := { dst := some 103, op := Op.move (Operand.tmp 8), type := 3, pos := "ref.go:112", after := #[{ on := 23, ground := Ground.guard }], guard := some (23, true) }) (v := ?qav25) rfl (by kernel_rfl) (by kernel_rfl) (by kernel_rfl) (fun _ _ _ h => h) (Or.inl ⟨by rfl, ?qah25⟩) (by assumption) ?qar25
            case qah25 => ((intro w hSw; (try dsimp only at hSw); go_simp); try with_reducible rfl)
            try simp only [Act.put, List.setIfInBounds_toArray, List.set_cons_zero, List.set_cons_succ]
            refine wpAnyH_take (i := 26) (oi := { dst := some 104, op := Op.indexAddr 32 (Operand.tmp 102) (Operand.tmp 103), type := 0, pos := "ref.go:112", after := #[{ on := 24, ground := Ground.data }, { on := 25, ground := Ground.data }, { on := 23, ground := Ground.guard }], guard := some (23, true) }) (v := ?qav26) rfl (by kernel_rfl) (by kernel_rfl) (by kernel_rfl) (fun _ _ _ h => h) (Or.inl ⟨by rfl, ?qah26⟩) (by assumption) ?qar26
            case qah26 => ((intro w hSw; (try dsimp only at hSw); go_simp); try with_reducible rfl)
            try simp only [Act.put, List.setIfInBounds_toArray, List.set_cons_zero, List.set_cons_succ]
            refine wpAnyH_take (i := 27) (oi := { dst := some 105, op := Op.load 35 (Operand.tmp 104), type := 35, pos := "ref.go:112", after := #[{ on := 26, ground := Ground.data }, { on := 23, ground := Ground.guard }], guard := some (23, true) }) (v := ?qav27) rfl (by kernel_rfl) (by kernel_rfl) (by kernel_rfl) (fun _ _ _ h => h) (Or.inl ⟨by rfl, ?qah27⟩) (by assumption) ?qar27
            case qah27 => ((intro w hSw; (try dsimp only at hSw); go_simp); try with_reducible rfl)
            try simp only [Act.put, List.setIfInBounds_toArray, List.set_cons_zero, List.set_cons_succ]
            refine wpAnyH_take (i := 28) (oi := { dst := some 106, op := Op.move (Operand.tmp 0), type := 32, pos := "ref.go:112", after := #[{ on := 23, ground := Ground.guard }], guard := some (23, true) }) (v := ?qav28) rfl (by kernel_rfl) (by kernel_rfl) (by kernel_rfl) (fun _ _ _ h => h) (Or.inl ⟨by rfl, ?qah28⟩) (by assumption) ?qar28
            case qah28 => ((intro w hSw; (try dsimp only at hSw); go_simp); try with_reducible rfl)
            try simp only [Act.put, List.setIfInBounds_toArray, List.set_cons_zero, List.set_cons_succ]
            refine wpAnyH_take (i := 29) (oi := { dst := some 107, op := Op.move (Operand.tmp 9), type := 3, pos := "ref.go:112", after := #[{ on := 23, ground := Ground.guard }], guard := some (23, true) }) (v := ?qav29) rfl (by kernel_rfl) (by kernel_rfl) (by kernel_rfl) (fun _ _ _ h => h) (Or.inl ⟨by rfl, ?qah29⟩) (by assumption) ?qar29
            case qah29 => ((intro w hSw; (try dsimp only at hSw); go_simp); try with_reducible rfl)
            try simp only [Act.put, List.setIfInBounds_toArray, List.set_cons_zero, List.set_cons_succ]
            refine wpAnyH_take (i := 30) (oi := { dst := some 108, op := Op.indexAddr 32 (Operand.tmp 106) (Operand.tmp 107), type := 0, pos := "ref.go:112", after := #[{ on := 28, ground := Ground.data }, { on := 29, ground := Ground.data }, { on := 23, ground := Ground.guard }], guard := some (23, true) }) (v := ?qav30) rfl (by kernel_rfl) (by kernel_rfl) (by kernel_rfl) (fun _ _ _ h => h) (Or.inl ⟨by rfl, ?qah30⟩) (by assumption) ?qar30
            case qah30 => ((intro w hSw; (try dsimp only at hSw); go_simp); try with_reducible rfl)
            try simp only [Act.put, List.setIfInBounds_toArray, List.set_cons_zero, List.set_cons_succ]
            refine wpAnyH_take (i := 31) (oi := { dst := some 109, op := Op.load 35 (Operand.tmp 108), type := 35, pos := "ref.go:112", after := #[{ on := 30, ground := Ground.data }, { on := 23, ground := Ground.guard }], guard := some (23, true) }) (v := ?qav31) rfl (by kernel_rfl) (by kernel_rfl) (by kernel_rfl) (fun _ _ _ h => h) (Or.inl ⟨by rfl, ?qah31⟩) (by assumption) ?qar31
            case qah31 => ((intro w hSw; (try dsimp only at hSw); go_simp); try with_reducible rfl)
            try simp only [Act.put, List.setIfInBounds_toArray, List.set_cons_zero, List.set_cons_succ]
            refine wpAnyH_ready (rs := [32]) (by kernel_rfl) (by simp) ?_
            refine AllReadyH.cons (o := { dst := some 110, op := Op.call { callee := Callee.value (Operand.func 35), args := #[Operand.tmp 105, Operand.tmp 109], argTypes := #[35, 35] }, type := 4, pos := "ref.go:112", after := #[{ on := 27, ground := Ground.data }, { on := 31, ground := Ground.data }, { on := 23, ground := Ground.chain }, { on := 23, ground := Ground.guard }], guard := some (23, true) }) rfl (fun K hK => ?_) AllReadyH.nil
            go_simp
            (go_at_call 35; with_reducible refine (HA.out _).mono ?_; rintro e w' ⟨rfl, hbq⟩; have hq9 : Below wr.heap.size wr w' := below_tr hbq (by assumption); clear hbq)
            refine hK.out _ _ (by assumption) (fun hHeld => ?_)
            clear hK K
            try simp only [Act.put, List.setIfInBounds_toArray, List.set_cons_zero, List.set_cons_succ]
            refine wpAnyH_take (i := 33) (oi := { dst := some 111, op := Op.pick (Operand.tmp 101) (Operand.tmp 110) (Operand.const (Value.bool false)), type := 4, pos := "ref.go:112", after := #[{ on := 23, ground := Ground.data }, { on := 32, ground := Ground.data }], guard := none }) (v := ?qav33) rfl (by kernel_rfl) (by kernel_rfl) (by kernel_rfl) (fun _ _ _ h => h) (Or.inl ⟨by rfl, ?qah33⟩) (by assumption) ?qar33
            case qah33 => ((intro w hSw; (try dsimp only at hSw); go_simp); try with_reducible rfl)
            try simp only [Act.put, List.setIfInBounds_toArray, List.set_cons_zero, List.set_cons_succ]
            refine wpAnyH_done (by kernel_rfl) ?_ _
            go_wp2_with fail
            go_meet
            exact ⟨rfl, by assumption⟩
           ·have g3a : decide ((pk : Int) < (pi : Int)) = false := decide_eq_false (by omega)
            have g3b : decide (pk < pi) = false := decide_eq_false g3
            refine wp_region_held_drew (S := fun w' => Below wr.heap.size wr w') (by kernel_rfl) ((Below.refl _ _).drew) (fun hHeld => ?_)
            refine wpAnyH_take (i := 0) (oi := { dst := some 78, op := Op.move (Operand.tmp 5), type := 40, pos := "ref.go:112", after := #[], guard := none }) (v := ?qbv0) rfl (by kernel_rfl) (by kernel_rfl) (by kernel_rfl) (fun _ _ _ h => h) (Or.inl ⟨by rfl, ?qbh0⟩) (by assumption) ?qbr0
            case qbh0 => ((intro w hSw; (try dsimp only at hSw); go_simp); try with_reducible rfl)
            try simp only [Act.put, List.setIfInBounds_toArray, List.set_cons_zero, List.set_cons_succ]
            refine wpAnyH_take (i := 1) (oi := { dst := some 79, op := Op.move (Operand.tmp 8), type := 3, pos := "ref.go:112", after := #[], guard := none }) (v := ?qbv1) rfl (by kernel_rfl) (by kernel_rfl) (by kernel_rfl) (fun _ _ _ h => h) (Or.inl ⟨by rfl, ?qbh1⟩) (by assumption) ?qbr1
            case qbh1 => ((intro w hSw; (try dsimp only at hSw); go_simp); try with_reducible rfl)
            try simp only [Act.put, List.setIfInBounds_toArray, List.set_cons_zero, List.set_cons_succ]
            refine wpAnyH_take (i := 2) (oi := { dst := some 80, op := Op.indexAddr 40 (Operand.tmp 78) (Operand.tmp 79), type := 0, pos := "ref.go:112", after := #[{ on := 0, ground := Ground.data }, { on := 1, ground := Ground.data }], guard := none }) (v := ?qbv2) rfl (by kernel_rfl) (by kernel_rfl) (by kernel_rfl) (fun _ _ _ h => h) (Or.inl ⟨by rfl, ?qbh2⟩) (by assumption) ?qbr2
            case qbh2 => ((intro w hSw; (try dsimp only at hSw); go_simp); try with_reducible rfl)
            try simp only [Act.put, List.setIfInBounds_toArray, List.set_cons_zero, List.set_cons_succ]
            refine wpAnyH_take (i := 3) (oi := { dst := some 81, op := Op.load 3 (Operand.tmp 80), type := 3, pos := "ref.go:112", after := #[{ on := 2, ground := Ground.data }], guard := none }) (v := ?qbv3) rfl (by kernel_rfl) (by kernel_rfl) (by kernel_rfl) (fun _ _ _ h => h) (Or.inl ⟨by rfl, ?qbh3⟩) (by assumption) ?qbr3
            case qbh3 => ((intro w hSw; (try dsimp only at hSw); go_simp); try with_reducible rfl)
            try simp only [Act.put, List.setIfInBounds_toArray, List.set_cons_zero, List.set_cons_succ]
            refine wpAnyH_take (i := 4) (oi := { dst := some 82, op := Op.binOp BinOp.gtr 3 (Operand.tmp 81) (Operand.const (Value.int IntKind.i64 0)) 3, type := 4, pos := "ref.go:112", after := #[{ on := 3, ground := Ground.data }], guard := none }) (v := ?qbv4) rfl (by kernel_rfl) (by kernel_rfl) (by kernel_rfl) (fun _ _ _ h => h) (Or.inl ⟨by rfl, ?qbh4⟩) (by assumption) ?qbr4
            case qbh4 => ((intro w hSw; (try dsimp only at hSw); go_simp); try with_reducible rfl)
            try simp only [Act.put, List.setIfInBounds_toArray, List.set_cons_zero, List.set_cons_succ]
            refine wpAnyH_take (i := 5) (oi := { dst := some 83, op := Op.move (Operand.tmp 82), type := 4, pos := "ref.go:112", after := #[{ on := 4, ground := Ground.data }], guard := none }) (v := ?qbv5) rfl (by kernel_rfl) (by kernel_rfl) (by kernel_rfl) (fun _ _ _ h => h) (Or.inl ⟨by rfl, ?qbh5⟩) (by assumption) ?qbr5
            case qbh5 => ((intro w hSw; (try dsimp only at hSw); go_simp); try with_reducible rfl)
            try simp only [Act.put, List.setIfInBounds_toArray, List.set_cons_zero, List.set_cons_succ]
            refine wpAnyH_take (i := 6) (oi := { dst := some 84, op := Op.move (Operand.tmp 5), type := 40, pos := "ref.go:112", after := #[{ on := 5, ground := Ground.guard }], guard := some (5, true) }) (v := ?qbv6) rfl (by kernel_rfl) (by kernel_rfl) (by kernel_rfl) (fun _ _ _ h => h) (Or.inl ⟨by rfl, ?qbh6⟩) (by assumption) ?qbr6
            case qbh6 => ((intro w hSw; (try dsimp only at hSw); go_simp); try with_reducible rfl)
            try simp only [Act.put, List.setIfInBounds_toArray, List.set_cons_zero, List.set_cons_succ]
            refine wpAnyH_take (i := 7) (oi := { dst := some 85, op := Op.move (Operand.tmp 9), type := 3, pos := "ref.go:112", after := #[{ on := 5, ground := Ground.guard }], guard := some (5, true) }) (v := ?qbv7) rfl (by kernel_rfl) (by kernel_rfl) (by kernel_rfl) (fun _ _ _ h => h) (Or.inl ⟨by rfl, ?qbh7⟩) (by assumption) ?qbr7
            case qbh7 => ((intro w hSw; (try dsimp only at hSw); go_simp); try with_reducible rfl)
            try simp only [Act.put, List.setIfInBounds_toArray, List.set_cons_zero, List.set_cons_succ]
            refine wpAnyH_take (i := 8) (oi := { dst := some 86, op := Op.indexAddr 40 (Operand.tmp 84) (Operand.tmp 85), type := 0, pos := "ref.go:112", after := #[{ on := 6, ground := Ground.data }, { on := 7, ground := Ground.data }, { on := 5, ground := Ground.guard }], guard := some (5, true) }) (v := ?qbv8) rfl (by kernel_rfl) (by kernel_rfl) (by kernel_rfl) (fun _ _ _ h => h) (Or.inl ⟨by rfl, ?qbh8⟩) (by assumption) ?qbr8
            case qbh8 => ((intro w hSw; (try dsimp only at hSw); go_simp); try with_reducible rfl)
            try simp only [Act.put, List.setIfInBounds_toArray, List.set_cons_zero, List.set_cons_succ]
            refine wpAnyH_take (i := 9) (oi := { dst := some 87, op := Op.load 3 (Operand.tmp 86), type := 3, pos := "ref.go:112", after := #[{ on := 8, ground := Ground.data }, { on := 5, ground := Ground.guard }], guard := some (5, true) }) (v := ?qbv9) rfl (by kernel_rfl) (by kernel_rfl) (by kernel_rfl) (fun _ _ _ h => h) (Or.inl ⟨by rfl, ?qbh9⟩) (by assumption) ?qbr9
            case qbh9 => ((intro w hSw; (try dsimp only at hSw); go_simp); try with_reducible rfl)
            try simp only [Act.put, List.setIfInBounds_toArray, List.set_cons_zero, List.set_cons_succ]
            refine wpAnyH_take (i := 10) (oi := { dst := some 88, op := Op.binOp BinOp.gtr 3 (Operand.tmp 87) (Operand.const (Value.int IntKind.i64 0)) 3, type := 4, pos := "ref.go:112", after := #[{ on := 9, ground := Ground.data }, { on := 5, ground := Ground.guard }], guard := some (5, true) }) (v := ?qbv10) rfl (by kernel_rfl) (by kernel_rfl) (by kernel_rfl) (fun _ _ _ h => h) (Or.inl ⟨by rfl, ?qbh10⟩) (by assumption) ?qbr10
            case qbh10 => ((intro w hSw; (try dsimp only at hSw); go_simp); try with_reducible rfl)
            try simp only [Act.put, List.setIfInBounds_toArray, List.set_cons_zero, List.set_cons_succ]
            refine wpAnyH_take (i := 11) (oi := { dst := some 89, op := Op.pick (Operand.tmp 83) (Operand.tmp 88) (Operand.const (Value.bool false)), type := 4, pos := "ref.go:112", after := #[{ on := 5, ground := Ground.data }, { on := 10, ground := Ground.data }], guard := none }) (v := ?qbv11) rfl (by kernel_rfl) (by kernel_rfl) (by kernel_rfl) (fun _ _ _ h => h) (Or.inl ⟨by rfl, ?qbh11⟩) (by assumption) ?qbr11
            case qbh11 => ((intro w hSw; (try dsimp only at hSw); go_simp); try with_reducible rfl)
            try simp only [Act.put, List.setIfInBounds_toArray, List.set_cons_zero, List.set_cons_succ]
            refine wpAnyH_take (i := 12) (oi := { dst := some 90, op := Op.move (Operand.tmp 89), type := 4, pos := "ref.go:112", after := #[{ on := 11, ground := Ground.data }, { on := 5, ground := Ground.chain }], guard := none }) (v := ?qbv12) rfl (by kernel_rfl) (by kernel_rfl) (by kernel_rfl) (fun _ _ _ h => h) (Or.inl ⟨by rfl, ?qbh12⟩) (by assumption) ?qbr12
            case qbh12 => ((intro w hSw; (try dsimp only at hSw); go_simp); try with_reducible rfl)
            try simp only [Act.put, List.setIfInBounds_toArray, List.set_cons_zero, List.set_cons_succ]
            refine wpAnyH_take (i := 13) (oi := { dst := some 91, op := Op.move (Operand.tmp 5), type := 40, pos := "ref.go:112", after := #[{ on := 12, ground := Ground.guard }], guard := some (12, true) }) (v := ?qbv13) rfl (by kernel_rfl) (by kernel_rfl) (by kernel_rfl) (fun _ _ _ h => h) (Or.inl ⟨by rfl, ?qbh13⟩) (by assumption) ?qbr13
            case qbh13 => ((intro w hSw; (try dsimp only at hSw); go_simp); try with_reducible rfl)
            try simp only [Act.put, List.setIfInBounds_toArray, List.set_cons_zero, List.set_cons_succ]
            refine wpAnyH_take (i := 14) (oi := { dst := some 92, op := Op.move (Operand.tmp 9), type := 3, pos := "ref.go:112", after := #[{ on := 12, ground := Ground.guard }], guard := some (12, true) }) (v := ?qbv14) rfl (by kernel_rfl) (by kernel_rfl) (by kernel_rfl) (fun _ _ _ h => h) (Or.inl ⟨by rfl, ?qbh14⟩) (by assumption) ?qbr14
            case qbh14 => ((intro w hSw; (try dsimp only at hSw); go_simp); try with_reducible rfl)
            try simp only [Act.put, List.setIfInBounds_toArray, List.set_cons_zero, List.set_cons_succ]
            refine wpAnyH_take (i := 15) (oi := { dst := some 93, op := Op.indexAddr 40 (Operand.tmp 91) (Operand.tmp 92), type := 0, pos := "ref.go:112", after := #[{ on := 13, ground := Ground.data }, { on := 14, ground := Ground.data }, { on := 12, ground := Ground.guard }], guard := some (12, true) }) (v := ?qbv15) rfl (by kernel_rfl) (by kernel_rfl) (by kernel_rfl) (fun _ _ _ h => h) (Or.inl ⟨by rfl, ?qbh15⟩) (by assumption) ?qbr15
            case qbh15 => ((intro w hSw; (try dsimp only at hSw); go_simp); try with_reducible rfl)
            try simp only [Act.put, List.setIfInBounds_toArray, List.set_cons_zero, List.set_cons_succ]
            refine wpAnyH_take (i := 16) (oi := { dst := some 94, op := Op.load 3 (Operand.tmp 93), type := 3, pos := "ref.go:112", after := #[{ on := 15, ground := Ground.data }, { on := 12, ground := Ground.guard }], guard := some (12, true) }) (v := ?qbv16) rfl (by kernel_rfl) (by kernel_rfl) (by kernel_rfl) (fun _ _ _ h => h) (Or.inl ⟨by rfl, ?qbh16⟩) (by assumption) ?qbr16
            case qbh16 => ((intro w hSw; (try dsimp only at hSw); go_simp); try with_reducible rfl)
            try simp only [Act.put, List.setIfInBounds_toArray, List.set_cons_zero, List.set_cons_succ]
            refine wpAnyH_take (i := 17) (oi := { dst := some 95, op := Op.move (Operand.tmp 5), type := 40, pos := "ref.go:112", after := #[{ on := 12, ground := Ground.guard }], guard := some (12, true) }) (v := ?qbv17) rfl (by kernel_rfl) (by kernel_rfl) (by kernel_rfl) (fun _ _ _ h => h) (Or.inl ⟨by rfl, ?qbh17⟩) (by assumption) ?qbr17
            case qbh17 => ((intro w hSw; (try dsimp only at hSw); go_simp); try with_reducible rfl)
            try simp only [Act.put, List.setIfInBounds_toArray, List.set_cons_zero, List.set_cons_succ]
            refine wpAnyH_take (i := 18) (oi := { dst := some 96, op := Op.move (Operand.tmp 8), type := 3, pos := "ref.go:112", after := #[{ on := 12, ground := Ground.guard }], guard := some (12, true) }) (v := ?qbv18) rfl (by kernel_rfl) (by kernel_rfl) (by kernel_rfl) (fun _ _ _ h => h) (Or.inl ⟨by rfl, ?qbh18⟩) (by assumption) ?qbr18
            case qbh18 => ((intro w hSw; (try dsimp only at hSw); go_simp); try with_reducible rfl)
            try simp only [Act.put, List.setIfInBounds_toArray, List.set_cons_zero, List.set_cons_succ]
            refine wpAnyH_take (i := 19) (oi := { dst := some 97, op := Op.indexAddr 40 (Operand.tmp 95) (Operand.tmp 96), type := 0, pos := "ref.go:112", after := #[{ on := 17, ground := Ground.data }, { on := 18, ground := Ground.data }, { on := 12, ground := Ground.guard }], guard := some (12, true) }) (v := ?qbv19) rfl (by kernel_rfl) (by kernel_rfl) (by kernel_rfl) (fun _ _ _ h => h) (Or.inl ⟨by rfl, ?qbh19⟩) (by assumption) ?qbr19
            case qbh19 => ((intro w hSw; (try dsimp only at hSw); go_simp); try with_reducible rfl)
            try simp only [Act.put, List.setIfInBounds_toArray, List.set_cons_zero, List.set_cons_succ]
            refine wpAnyH_take (i := 20) (oi := { dst := some 98, op := Op.load 3 (Operand.tmp 97), type := 3, pos := "ref.go:112", after := #[{ on := 19, ground := Ground.data }, { on := 12, ground := Ground.guard }], guard := some (12, true) }) (v := ?qbv20) rfl (by kernel_rfl) (by kernel_rfl) (by kernel_rfl) (fun _ _ _ h => h) (Or.inl ⟨by rfl, ?qbh20⟩) (by assumption) ?qbr20
            case qbh20 => ((intro w hSw; (try dsimp only at hSw); go_simp); try with_reducible rfl)
            try simp only [Act.put, List.setIfInBounds_toArray, List.set_cons_zero, List.set_cons_succ]
            refine wpAnyH_take (i := 21) (oi := { dst := some 99, op := Op.binOp BinOp.lss 3 (Operand.tmp 94) (Operand.tmp 98) 3, type := 4, pos := "ref.go:112", after := #[{ on := 16, ground := Ground.data }, { on := 20, ground := Ground.data }, { on := 12, ground := Ground.guard }], guard := some (12, true) }) (v := ?qbv21) rfl (by kernel_rfl) (by kernel_rfl) (by kernel_rfl) (fun _ _ _ h => h) (Or.inl ⟨by rfl, ?qbh21⟩) (by assumption) ?qbr21
            case qbh21 => ((intro w hSw; (try dsimp only at hSw); go_simp); try with_reducible rfl)
            try simp only [Act.put, List.setIfInBounds_toArray, List.set_cons_zero, List.set_cons_succ]
            refine wpAnyH_take (i := 22) (oi := { dst := some 100, op := Op.pick (Operand.tmp 90) (Operand.tmp 99) (Operand.const (Value.bool false)), type := 4, pos := "ref.go:112", after := #[{ on := 12, ground := Ground.data }, { on := 21, ground := Ground.data }], guard := none }) (v := ?qbv22) rfl (by kernel_rfl) (by kernel_rfl) (by kernel_rfl) (fun _ _ _ h => h) (Or.inl ⟨by rfl, ?qbh22⟩) (by assumption) ?qbr22
            case qbh22 => ((intro w hSw; (try dsimp only at hSw); go_simp); try with_reducible rfl)
            try simp only [Act.put, List.setIfInBounds_toArray, List.set_cons_zero, List.set_cons_succ]
            refine wpAnyH_take (i := 23) (oi := { dst := some 101, op := Op.move (Operand.tmp 100), type := 4, pos := "ref.go:112", after := #[{ on := 22, ground := Ground.data }, { on := 12, ground := Ground.chain }], guard := none }) (v := ?qbv23) rfl (by kernel_rfl) (by kernel_rfl) (by kernel_rfl) (fun _ _ _ h => h) (Or.inl ⟨by rfl, ?qbh23⟩) (by assumption) ?qbr23
            case qbh23 => ((intro w hSw; (try dsimp only at hSw); go_simp); try with_reducible rfl)
            try simp only [Act.put, List.setIfInBounds_toArray, List.set_cons_zero, List.set_cons_succ]
            refine wpAnyH_take (i := 24) (oi := { dst := some 102, op := Op.move (Operand.tmp 0), type := 32, pos := "ref.go:112", after := #[{ on := 23, ground := Ground.guard }], guard := some (23, true) }) (v := undef) rfl (by kernel_rfl) (by kernel_rfl) (by kernel_rfl) (fun _ _ _ h => h) (Or.inr ⟨by rfl, rfl⟩) (by assumption) ?_
            try simp only [Act.put, List.setIfInBounds_toArray, List.set_cons_zero, List.set_cons_succ]
            refine wpAnyH_take (i := 25) (oi := { dst := some 103, op := Op.move (Operand.tmp 8), type := 3, pos := "ref.go:112", after := #[{ on := 23, ground := Ground.guard }], guard := some (23, true) }) (v := undef) rfl (by kernel_rfl) (by kernel_rfl) (by kernel_rfl) (fun _ _ _ h => h) (Or.inr ⟨by rfl, rfl⟩) (by assumption) ?_
            try simp only [Act.put, List.setIfInBounds_toArray, List.set_cons_zero, List.set_cons_succ]
            refine wpAnyH_take (i := 26) (oi := { dst := some 104, op := Op.indexAddr 32 (Operand.tmp 102) (Operand.tmp 103), type := 0, pos := "ref.go:112", after := #[{ on := 24, ground := Ground.data }, { on := 25, ground := Ground.data }, { on := 23, ground := Ground.guard }], guard := some (23, true) }) (v := undef) rfl (by kernel_rfl) (by kernel_rfl) (by kernel_rfl) (fun _ _ _ h => h) (Or.inr ⟨by rfl, rfl⟩) (by assumption) ?_
            try simp only [Act.put, List.setIfInBounds_toArray, List.set_cons_zero, List.set_cons_succ]
            refine wpAnyH_take (i := 27) (oi := { dst := some 105, op := Op.load 35 (Operand.tmp 104), type := 35, pos := "ref.go:112", after := #[{ on := 26, ground := Ground.data }, { on := 23, ground := Ground.guard }], guard := some (23, true) }) (v := undef) rfl (by kernel_rfl) (by kernel_rfl) (by kernel_rfl) (fun _ _ _ h => h) (Or.inr ⟨by rfl, rfl⟩) (by assumption) ?_
            try simp only [Act.put, List.setIfInBounds_toArray, List.set_cons_zero, List.set_cons_succ]
            refine wpAnyH_take (i := 28) (oi := { dst := some 106, op := Op.move (Operand.tmp 0), type := 32, pos := "ref.go:112", after := #[{ on := 23, ground := Ground.guard }], guard := some (23, true) }) (v := undef) rfl (by kernel_rfl) (by kernel_rfl) (by kernel_rfl) (fun _ _ _ h => h) (Or.inr ⟨by rfl, rfl⟩) (by assumption) ?_
            try simp only [Act.put, List.setIfInBounds_toArray, List.set_cons_zero, List.set_cons_succ]
            refine wpAnyH_take (i := 29) (oi := { dst := some 107, op := Op.move (Operand.tmp 9), type := 3, pos := "ref.go:112", after := #[{ on := 23, ground := Ground.guard }], guard := some (23, true) }) (v := undef) rfl (by kernel_rfl) (by kernel_rfl) (by kernel_rfl) (fun _ _ _ h => h) (Or.inr ⟨by rfl, rfl⟩) (by assumption) ?_
            try simp only [Act.put, List.setIfInBounds_toArray, List.set_cons_zero, List.set_cons_succ]
            refine wpAnyH_take (i := 30) (oi := { dst := some 108, op := Op.indexAddr 32 (Operand.tmp 106) (Operand.tmp 107), type := 0, pos := "ref.go:112", after := #[{ on := 28, ground := Ground.data }, { on := 29, ground := Ground.data }, { on := 23, ground := Ground.guard }], guard := some (23, true) }) (v := undef) rfl (by kernel_rfl) (by kernel_rfl) (by kernel_rfl) (fun _ _ _ h => h) (Or.inr ⟨by rfl, rfl⟩) (by assumption) ?_
            try simp only [Act.put, List.setIfInBounds_toArray, List.set_cons_zero, List.set_cons_succ]
            refine wpAnyH_take (i := 31) (oi := { dst := some 109, op := Op.load 35 (Operand.tmp 108), type := 35, pos := "ref.go:112", after := #[{ on := 30, ground := Ground.data }, { on := 23, ground := Ground.guard }], guard := some (23, true) }) (v := undef) rfl (by kernel_rfl) (by kernel_rfl) (by kernel_rfl) (fun _ _ _ h => h) (Or.inr ⟨by rfl, rfl⟩) (by assumption) ?_
            try simp only [Act.put, List.setIfInBounds_toArray, List.set_cons_zero, List.set_cons_succ]
            refine wpAnyH_take (i := 32) (oi := { dst := some 110, op := Op.call { callee := Callee.value (Operand.func 35), args := #[Operand.tmp 105, Operand.tmp 109], argTypes := #[35, 35] }, type := 4, pos := "ref.go:112", after := #[{ on := 27, ground := Ground.data }, { on := 31, ground := Ground.data }, { on := 23, ground := Ground.chain }, { on := 23, ground := Ground.guard }], guard := some (23, true) }) (v := undef) rfl (by kernel_rfl) (by kernel_rfl) (by kernel_rfl) (fun _ _ _ h => h) (Or.inr ⟨by rfl, rfl⟩) (by assumption) ?_
            try simp only [Act.put, List.setIfInBounds_toArray, List.set_cons_zero, List.set_cons_succ]
            refine wpAnyH_take (i := 33) (oi := { dst := some 111, op := Op.pick (Operand.tmp 101) (Operand.tmp 110) (Operand.const (Value.bool false)), type := 4, pos := "ref.go:112", after := #[{ on := 23, ground := Ground.data }, { on := 32, ground := Ground.data }], guard := none }) (v := ?qbv33) rfl (by kernel_rfl) (by kernel_rfl) (by kernel_rfl) (fun _ _ _ h => h) (Or.inl ⟨by rfl, ?qbh33⟩) (by assumption) ?qbr33
            case qbh33 => ((intro w hSw; (try dsimp only at hSw); go_simp); try with_reducible rfl)
            try simp only [Act.put, List.setIfInBounds_toArray, List.set_cons_zero, List.set_cons_succ]
            refine wpAnyH_done (by kernel_rfl) ?_ _
            go_wp2_with fail
            go_meet
            exact ⟨rfl, by assumption⟩
          ·have g2a : decide ((0 : Int) < (pk : Int)) = false := decide_eq_false (by omega)
           have g2b : decide (0 < pk) = false := decide_eq_false g2
           have g2c : pk = 0 := by omega
           subst g2c
           refine wp_region_held_drew (S := fun w' => Below wr.heap.size wr w') (by kernel_rfl) ((Below.refl _ _).drew) (fun hHeld => ?_)
           refine wpAnyH_take (i := 0) (oi := { dst := some 78, op := Op.move (Operand.tmp 5), type := 40, pos := "ref.go:112", after := #[], guard := none }) (v := ?qcv0) rfl (by kernel_rfl) (by kernel_rfl) (by kernel_rfl) (fun _ _ _ h => h) (Or.inl ⟨by rfl, ?qch0⟩) (by assumption) ?qcr0
           case qch0 => ((intro w hSw; (try dsimp only at hSw); go_simp); try with_reducible rfl)
           try simp only [Act.put, List.setIfInBounds_toArray, List.set_cons_zero, List.set_cons_succ]
           refine wpAnyH_take (i := 1) (oi := { dst := some 79, op := Op.move (Operand.tmp 8), type := 3, pos := "ref.go:112", after := #[], guard := none }) (v := ?qcv1) rfl (by kernel_rfl) (by kernel_rfl) (by kernel_rfl) (fun _ _ _ h => h) (Or.inl ⟨by rfl, ?qch1⟩) (by assumption) ?qcr1
           case qch1 => ((intro w hSw; (try dsimp only at hSw); go_simp); try with_reducible rfl)
           try simp only [Act.put, List.setIfInBounds_toArray, List.set_cons_zero, List.set_cons_succ]
           refine wpAnyH_take (i := 2) (oi := { dst := some 80, op := Op.indexAddr 40 (Operand.tmp 78) (Operand.tmp 79), type := 0, pos := "ref.go:112", after := #[{ on := 0, ground := Ground.data }, { on := 1, ground := Ground.data }], guard := none }) (v := ?qcv2) rfl (by kernel_rfl) (by kernel_rfl) (by kernel_rfl) (fun _ _ _ h => h) (Or.inl ⟨by rfl, ?qch2⟩) (by assumption) ?qcr2
           case qch2 => ((intro w hSw; (try dsimp only at hSw); go_simp); try with_reducible rfl)
           try simp only [Act.put, List.setIfInBounds_toArray, List.set_cons_zero, List.set_cons_succ]
           refine wpAnyH_take (i := 3) (oi := { dst := some 81, op := Op.load 3 (Operand.tmp 80), type := 3, pos := "ref.go:112", after := #[{ on := 2, ground := Ground.data }], guard := none }) (v := ?qcv3) rfl (by kernel_rfl) (by kernel_rfl) (by kernel_rfl) (fun _ _ _ h => h) (Or.inl ⟨by rfl, ?qch3⟩) (by assumption) ?qcr3
           case qch3 => ((intro w hSw; (try dsimp only at hSw); go_simp); try with_reducible rfl)
           try simp only [Act.put, List.setIfInBounds_toArray, List.set_cons_zero, List.set_cons_succ]
           refine wpAnyH_take (i := 4) (oi := { dst := some 82, op := Op.binOp BinOp.gtr 3 (Operand.tmp 81) (Operand.const (Value.int IntKind.i64 0)) 3, type := 4, pos := "ref.go:112", after := #[{ on := 3, ground := Ground.data }], guard := none }) (v := ?qcv4) rfl (by kernel_rfl) (by kernel_rfl) (by kernel_rfl) (fun _ _ _ h => h) (Or.inl ⟨by rfl, ?qch4⟩) (by assumption) ?qcr4
           case qch4 => ((intro w hSw; (try dsimp only at hSw); go_simp); try with_reducible rfl)
           try simp only [Act.put, List.setIfInBounds_toArray, List.set_cons_zero, List.set_cons_succ]
           refine wpAnyH_take (i := 5) (oi := { dst := some 83, op := Op.move (Operand.tmp 82), type := 4, pos := "ref.go:112", after := #[{ on := 4, ground := Ground.data }], guard := none }) (v := ?qcv5) rfl (by kernel_rfl) (by kernel_rfl) (by kernel_rfl) (fun _ _ _ h => h) (Or.inl ⟨by rfl, ?qch5⟩) (by assumption) ?qcr5
           case qch5 => ((intro w hSw; (try dsimp only at hSw); go_simp); try with_reducible rfl)
           try simp only [Act.put, List.setIfInBounds_toArray, List.set_cons_zero, List.set_cons_succ]
           refine wpAnyH_take (i := 6) (oi := { dst := some 84, op := Op.move (Operand.tmp 5), type := 40, pos := "ref.go:112", after := #[{ on := 5, ground := Ground.guard }], guard := some (5, true) }) (v := ?qcv6) rfl (by kernel_rfl) (by kernel_rfl) (by kernel_rfl) (fun _ _ _ h => h) (Or.inl ⟨by rfl, ?qch6⟩) (by assumption) ?qcr6
           case qch6 => ((intro w hSw; (try dsimp only at hSw); go_simp); try with_reducible rfl)
           try simp only [Act.put, List.setIfInBounds_toArray, List.set_cons_zero, List.set_cons_succ]
           refine wpAnyH_take (i := 7) (oi := { dst := some 85, op := Op.move (Operand.tmp 9), type := 3, pos := "ref.go:112", after := #[{ on := 5, ground := Ground.guard }], guard := some (5, true) }) (v := ?qcv7) rfl (by kernel_rfl) (by kernel_rfl) (by kernel_rfl) (fun _ _ _ h => h) (Or.inl ⟨by rfl, ?qch7⟩) (by assumption) ?qcr7
           case qch7 => ((intro w hSw; (try dsimp only at hSw); go_simp); try with_reducible rfl)
           try simp only [Act.put, List.setIfInBounds_toArray, List.set_cons_zero, List.set_cons_succ]
           refine wpAnyH_take (i := 8) (oi := { dst := some 86, op := Op.indexAddr 40 (Operand.tmp 84) (Operand.tmp 85), type := 0, pos := "ref.go:112", after := #[{ on := 6, ground := Ground.data }, { on := 7, ground := Ground.data }, { on := 5, ground := Ground.guard }], guard := some (5, true) }) (v := ?qcv8) rfl (by kernel_rfl) (by kernel_rfl) (by kernel_rfl) (fun _ _ _ h => h) (Or.inl ⟨by rfl, ?qch8⟩) (by assumption) ?qcr8
           case qch8 => ((intro w hSw; (try dsimp only at hSw); go_simp); try with_reducible rfl)
           try simp only [Act.put, List.setIfInBounds_toArray, List.set_cons_zero, List.set_cons_succ]
           refine wpAnyH_take (i := 9) (oi := { dst := some 87, op := Op.load 3 (Operand.tmp 86), type := 3, pos := "ref.go:112", after := #[{ on := 8, ground := Ground.data }, { on := 5, ground := Ground.guard }], guard := some (5, true) }) (v := ?qcv9) rfl (by kernel_rfl) (by kernel_rfl) (by kernel_rfl) (fun _ _ _ h => h) (Or.inl ⟨by rfl, ?qch9⟩) (by assumption) ?qcr9
           case qch9 => ((intro w hSw; (try dsimp only at hSw); go_simp); try with_reducible rfl)
           try simp only [Act.put, List.setIfInBounds_toArray, List.set_cons_zero, List.set_cons_succ]
           refine wpAnyH_take (i := 10) (oi := { dst := some 88, op := Op.binOp BinOp.gtr 3 (Operand.tmp 87) (Operand.const (Value.int IntKind.i64 0)) 3, type := 4, pos := "ref.go:112", after := #[{ on := 9, ground := Ground.data }, { on := 5, ground := Ground.guard }], guard := some (5, true) }) (v := ?qcv10) rfl (by kernel_rfl) (by kernel_rfl) (by kernel_rfl) (fun _ _ _ h => h) (Or.inl ⟨by rfl, ?qch10⟩) (by assumption) ?qcr10
           case qch10 => ((intro w hSw; (try dsimp only at hSw); go_simp); try with_reducible rfl)
           try simp only [Act.put, List.setIfInBounds_toArray, List.set_cons_zero, List.set_cons_succ]
           refine wpAnyH_take (i := 11) (oi := { dst := some 89, op := Op.pick (Operand.tmp 83) (Operand.tmp 88) (Operand.const (Value.bool false)), type := 4, pos := "ref.go:112", after := #[{ on := 5, ground := Ground.data }, { on := 10, ground := Ground.data }], guard := none }) (v := ?qcv11) rfl (by kernel_rfl) (by kernel_rfl) (by kernel_rfl) (fun _ _ _ h => h) (Or.inl ⟨by rfl, ?qch11⟩) (by assumption) ?qcr11
           case qch11 => ((intro w hSw; (try dsimp only at hSw); go_simp); try with_reducible rfl)
           try simp only [Act.put, List.setIfInBounds_toArray, List.set_cons_zero, List.set_cons_succ]
           refine wpAnyH_take (i := 12) (oi := { dst := some 90, op := Op.move (Operand.tmp 89), type := 4, pos := "ref.go:112", after := #[{ on := 11, ground := Ground.data }, { on := 5, ground := Ground.chain }], guard := none }) (v := ?qcv12) rfl (by kernel_rfl) (by kernel_rfl) (by kernel_rfl) (fun _ _ _ h => h) (Or.inl ⟨by rfl, ?qch12⟩) (by assumption) ?qcr12
           case qch12 => ((intro w hSw; (try dsimp only at hSw); go_simp); try with_reducible rfl)
           try simp only [Act.put, List.setIfInBounds_toArray, List.set_cons_zero, List.set_cons_succ]
           refine wpAnyH_take (i := 13) (oi := { dst := some 91, op := Op.move (Operand.tmp 5), type := 40, pos := "ref.go:112", after := #[{ on := 12, ground := Ground.guard }], guard := some (12, true) }) (v := undef) rfl (by kernel_rfl) (by kernel_rfl) (by kernel_rfl) (fun _ _ _ h => h) (Or.inr ⟨by rfl, rfl⟩) (by assumption) ?_
           try simp only [Act.put, List.setIfInBounds_toArray, List.set_cons_zero, List.set_cons_succ]
           refine wpAnyH_take (i := 14) (oi := { dst := some 92, op := Op.move (Operand.tmp 9), type := 3, pos := "ref.go:112", after := #[{ on := 12, ground := Ground.guard }], guard := some (12, true) }) (v := undef) rfl (by kernel_rfl) (by kernel_rfl) (by kernel_rfl) (fun _ _ _ h => h) (Or.inr ⟨by rfl, rfl⟩) (by assumption) ?_
           try simp only [Act.put, List.setIfInBounds_toArray, List.set_cons_zero, List.set_cons_succ]
           refine wpAnyH_take (i := 15) (oi := { dst := some 93, op := Op.indexAddr 40 (Operand.tmp 91) (Operand.tmp 92), type := 0, pos := "ref.go:112", after := #[{ on := 13, ground := Ground.data }, { on := 14, ground := Ground.data }, { on := 12, ground := Ground.guard }], guard := some (12, true) }) (v := undef) rfl (by kernel_rfl) (by kernel_rfl) (by kernel_rfl) (fun _ _ _ h => h) (Or.inr ⟨by rfl, rfl⟩) (by assumption) ?_
           try simp only [Act.put, List.setIfInBounds_toArray, List.set_cons_zero, List.set_cons_succ]
           refine wpAnyH_take (i := 16) (oi := { dst := some 94, op := Op.load 3 (Operand.tmp 93), type := 3, pos := "ref.go:112", after := #[{ on := 15, ground := Ground.data }, { on := 12, ground := Ground.guard }], guard := some (12, true) }) (v := undef) rfl (by kernel_rfl) (by kernel_rfl) (by kernel_rfl) (fun _ _ _ h => h) (Or.inr ⟨by rfl, rfl⟩) (by assumption) ?_
           try simp only [Act.put, List.setIfInBounds_toArray, List.set_cons_zero, List.set_cons_succ]
           refine wpAnyH_take (i := 17) (oi := { dst := some 95, op := Op.move (Operand.tmp 5), type := 40, pos := "ref.go:112", after := #[{ on := 12, ground := Ground.guard }], guard := some (12, true) }) (v := undef) rfl (by kernel_rfl) (by kernel_rfl) (by kernel_rfl) (fun _ _ _ h => h) (Or.inr ⟨by rfl, rfl⟩) (by assumption) ?_
           try simp only [Act.put, List.setIfInBounds_toArray, List.set_cons_zero, List.set_cons_succ]
           refine wpAnyH_take (i := 18) (oi := { dst := some 96, op := Op.move (Operand.tmp 8), type := 3, pos := "ref.go:112", after := #[{ on := 12, ground := Ground.guard }], guard := some (12, true) }) (v := undef) rfl (by kernel_rfl) (by kernel_rfl) (by kernel_rfl) (fun _ _ _ h => h) (Or.inr ⟨by rfl, rfl⟩) (by assumption) ?_
           try simp only [Act.put, List.setIfInBounds_toArray, List.set_cons_zero, List.set_cons_succ]
           refine wpAnyH_take (i := 19) (oi := { dst := some 97, op := Op.indexAddr 40 (Operand.tmp 95) (Operand.tmp 96), type := 0, pos := "ref.go:112", after := #[{ on := 17, ground := Ground.data }, { on := 18, ground := Ground.data }, { on := 12, ground := Ground.guard }], guard := some (12, true) }) (v := undef) rfl (by kernel_rfl) (by kernel_rfl) (by kernel_rfl) (fun _ _ _ h => h) (Or.inr ⟨by rfl, rfl⟩) (by assumption) ?_
           try simp only [Act.put, List.setIfInBounds_toArray, List.set_cons_zero, List.set_cons_succ]
           refine wpAnyH_take (i := 20) (oi := { dst := some 98, op := Op.load 3 (Operand.tmp 97), type := 3, pos := "ref.go:112", after := #[{ on := 19, ground := Ground.data }, { on := 12, ground := Ground.guard }], guard := some (12, true) }) (v := undef) rfl (by kernel_rfl) (by kernel_rfl) (by kernel_rfl) (fun _ _ _ h => h) (Or.inr ⟨by rfl, rfl⟩) (by assumption) ?_
           try simp only [Act.put, List.setIfInBounds_toArray, List.set_cons_zero, List.set_cons_succ]
           refine wpAnyH_take (i := 21) (oi := { dst := some 99, op := Op.binOp BinOp.lss 3 (Operand.tmp 94) (Operand.tmp 98) 3, type := 4, pos := "ref.go:112", after := #[{ on := 16, ground := Ground.data }, { on := 20, ground := Ground.data }, { on := 12, ground := Ground.guard }], guard := some (12, true) }) (v := undef) rfl (by kernel_rfl) (by kernel_rfl) (by kernel_rfl) (fun _ _ _ h => h) (Or.inr ⟨by rfl, rfl⟩) (by assumption) ?_
           try simp only [Act.put, List.setIfInBounds_toArray, List.set_cons_zero, List.set_cons_succ]
           refine wpAnyH_take (i := 22) (oi := { dst := some 100, op := Op.pick (Operand.tmp 90) (Operand.tmp 99) (Operand.const (Value.bool false)), type := 4, pos := "ref.go:112", after := #[{ on := 12, ground := Ground.data }, { on := 21, ground := Ground.data }], guard := none }) (v := ?qcv22) rfl (by kernel_rfl) (by kernel_rfl) (by kernel_rfl) (fun _ _ _ h => h) (Or.inl ⟨by rfl, ?qch22⟩) (by assumption) ?qcr22
           case qch22 => ((intro w hSw; (try dsimp only at hSw); go_simp); try with_reducible rfl)
           try simp only [Act.put, List.setIfInBounds_toArray, List.set_cons_zero, List.set_cons_succ]
           refine wpAnyH_take (i := 23) (oi := { dst := some 101, op := Op.move (Operand.tmp 100), type := 4, pos := "ref.go:112", after := #[{ on := 22, ground := Ground.data }, { on := 12, ground := Ground.chain }], guard := none }) (v := ?qcv23) rfl (by kernel_rfl) (by kernel_rfl) (by kernel_rfl) (fun _ _ _ h => h) (Or.inl ⟨by rfl, ?qch23⟩) (by assumption) ?qcr23
           case qch23 => ((intro w hSw; (try dsimp only at hSw); go_simp); try with_reducible rfl)
           try simp only [Act.put, List.setIfInBounds_toArray, List.set_cons_zero, List.set_cons_succ]
           refine wpAnyH_take (i := 24) (oi := { dst := some 102, op := Op.move (Operand.tmp 0), type := 32, pos := "ref.go:112", after := #[{ on := 23, ground := Ground.guard }], guard := some (23, true) }) (v := undef) rfl (by kernel_rfl) (by kernel_rfl) (by kernel_rfl) (fun _ _ _ h => h) (Or.inr ⟨by rfl, rfl⟩) (by assumption) ?_
           try simp only [Act.put, List.setIfInBounds_toArray, List.set_cons_zero, List.set_cons_succ]
           refine wpAnyH_take (i := 25) (oi := { dst := some 103, op := Op.move (Operand.tmp 8), type := 3, pos := "ref.go:112", after := #[{ on := 23, ground := Ground.guard }], guard := some (23, true) }) (v := undef) rfl (by kernel_rfl) (by kernel_rfl) (by kernel_rfl) (fun _ _ _ h => h) (Or.inr ⟨by rfl, rfl⟩) (by assumption) ?_
           try simp only [Act.put, List.setIfInBounds_toArray, List.set_cons_zero, List.set_cons_succ]
           refine wpAnyH_take (i := 26) (oi := { dst := some 104, op := Op.indexAddr 32 (Operand.tmp 102) (Operand.tmp 103), type := 0, pos := "ref.go:112", after := #[{ on := 24, ground := Ground.data }, { on := 25, ground := Ground.data }, { on := 23, ground := Ground.guard }], guard := some (23, true) }) (v := undef) rfl (by kernel_rfl) (by kernel_rfl) (by kernel_rfl) (fun _ _ _ h => h) (Or.inr ⟨by rfl, rfl⟩) (by assumption) ?_
           try simp only [Act.put, List.setIfInBounds_toArray, List.set_cons_zero, List.set_cons_succ]
           refine wpAnyH_take (i := 27) (oi := { dst := some 105, op := Op.load 35 (Operand.tmp 104), type := 35, pos := "ref.go:112", after := #[{ on := 26, ground := Ground.data }, { on := 23, ground := Ground.guard }], guard := some (23, true) }) (v := undef) rfl (by kernel_rfl) (by kernel_rfl) (by kernel_rfl) (fun _ _ _ h => h) (Or.inr ⟨by rfl, rfl⟩) (by assumption) ?_
           try simp only [Act.put, List.setIfInBounds_toArray, List.set_cons_zero, List.set_cons_succ]
           refine wpAnyH_take (i := 28) (oi := { dst := some 106, op := Op.move (Operand.tmp 0), type := 32, pos := "ref.go:112", after := #[{ on := 23, ground := Ground.guard }], guard := some (23, true) }) (v := undef) rfl (by kernel_rfl) (by kernel_rfl) (by kernel_rfl) (fun _ _ _ h => h) (Or.inr ⟨by rfl, rfl⟩) (by assumption) ?_
           try simp only [Act.put, List.setIfInBounds_toArray, List.set_cons_zero, List.set_cons_succ]
           refine wpAnyH_take (i := 29) (oi := { dst := some 107, op := Op.move (Operand.tmp 9), type := 3, pos := "ref.go:112", after := #[{ on := 23, ground := Ground.guard }], guard := some (23, true) }) (v := undef) rfl (by kernel_rfl) (by kernel_rfl) (by kernel_rfl) (fun _ _ _ h => h) (Or.inr ⟨by rfl, rfl⟩) (by assumption) ?_
           try simp only [Act.put, List.setIfInBounds_toArray, List.set_cons_zero, List.set_cons_succ]
           refine wpAnyH_take (i := 30) (oi := { dst := some 108, op := Op.indexAddr 32 (Operand.tmp 106) (Operand.tmp 107), type := 0, pos := "ref.go:112", after := #[{ on := 28, ground := Ground.data }, { on := 29, ground := Ground.data }, { on := 23, ground := Ground.guard }], guard := some (23, true) }) (v := undef) rfl (by kernel_rfl) (by kernel_rfl) (by kernel_rfl) (fun _ _ _ h => h) (Or.inr ⟨by rfl, rfl⟩) (by assumption) ?_
           try simp only [Act.put, List.setIfInBounds_toArray, List.set_cons_zero, List.set_cons_succ]
           refine wpAnyH_take (i := 31) (oi := { dst := some 109, op := Op.load 35 (Operand.tmp 108), type := 35, pos := "ref.go:112", after := #[{ on := 30, ground := Ground.data }, { on := 23, ground := Ground.guard }], guard := some (23, true) }) (v := undef) rfl (by kernel_rfl) (by kernel_rfl) (by kernel_rfl) (fun _ _ _ h => h) (Or.inr ⟨by rfl, rfl⟩) (by assumption) ?_
           try simp only [Act.put, List.setIfInBounds_toArray, List.set_cons_zero, List.set_cons_succ]
           refine wpAnyH_take (i := 32) (oi := { dst := some 110, op := Op.call { callee := Callee.value (Operand.func 35), args := #[Operand.tmp 105, Operand.tmp 109], argTypes := #[35, 35] }, type := 4, pos := "ref.go:112", after := #[{ on := 27, ground := Ground.data }, { on := 31, ground := Ground.data }, { on := 23, ground := Ground.chain }, { on := 23, ground := Ground.guard }], guard := some (23, true) }) (v := undef) rfl (by kernel_rfl) (by kernel_rfl) (by kernel_rfl) (fun _ _ _ h => h) (Or.inr ⟨by rfl, rfl⟩) (by assumption) ?_
           try simp only [Act.put, List.setIfInBounds_toArray, List.set_cons_zero, List.set_cons_succ]
           refine wpAnyH_take (i := 33) (oi := { dst := some 111, op := Op.pick (Operand.tmp 101) (Operand.tmp 110) (Operand.const (Value.bool false)), type := 4, pos := "ref.go:112", after := #[{ on := 23, ground := Ground.data }, { on := 32, ground := Ground.data }], guard := none }) (v := ?qcv33) rfl (by kernel_rfl) (by kernel_rfl) (by kernel_rfl) (fun _ _ _ h => h) (Or.inl ⟨by rfl, ?qch33⟩) (by assumption) ?qcr33
           case qch33 => ((intro w hSw; (try dsimp only at hSw); go_simp); try with_reducible rfl)
           try simp only [Act.put, List.setIfInBounds_toArray, List.set_cons_zero, List.set_cons_succ]
           refine wpAnyH_done (by kernel_rfl) ?_ _
           go_wp2_with fail
           go_meet
           exact ⟨rfl, by assumption⟩
         ·have g1c : pi = 0 := by omega
          subst g1c
          refine wp_region_held_drew (S := fun w' => Below wr.heap.size wr w') (by kernel_rfl) ((Below.refl _ _).drew) (fun hHeld => ?_)
          refine wpAnyH_take (i := 0) (oi := { dst := some 78, op := Op.move (Operand.tmp 5), type := 40, pos := "ref.go:112", after := #[], guard := none }) (v := ?qdv0) rfl (by kernel_rfl) (by kernel_rfl) (by kernel_rfl) (fun _ _ _ h => h) (Or.inl ⟨by rfl, ?qdh0⟩) (by assumption) ?qdr0
          case qdh0 => ((intro w hSw; (try dsimp only at hSw); go_simp); try with_reducible rfl)
          try simp only [Act.put, List.setIfInBounds_toArray, List.set_cons_zero, List.set_cons_succ]
          refine wpAnyH_take (i := 1) (oi := { dst := some 79, op := Op.move (Operand.tmp 8), type := 3, pos := "ref.go:112", after := #[], guard := none }) (v := ?qdv1) rfl (by kernel_rfl) (by kernel_rfl) (by kernel_rfl) (fun _ _ _ h => h) (Or.inl ⟨by rfl, ?qdh1⟩) (by assumption) ?qdr1
          case qdh1 => ((intro w hSw; (try dsimp only at hSw); go_simp); try with_reducible rfl)
          try simp only [Act.put, List.setIfInBounds_toArray, List.set_cons_zero, List.set_cons_succ]
          refine wpAnyH_take (i := 2) (oi := { dst := some 80, op := Op.indexAddr 40 (Operand.tmp 78) (Operand.tmp 79), type := 0, pos := "ref.go:112", after := #[{ on := 0, ground := Ground.data }, { on := 1, ground := Ground.data }], guard := none }) (v := ?qdv2) rfl (by kernel_rfl) (by kernel_rfl) (by kernel_rfl) (fun _ _ _ h => h) (Or.inl ⟨by rfl, ?qdh2⟩) (by assumption) ?qdr2
          case qdh2 => ((intro w hSw; (try dsimp only at hSw); go_simp); try with_reducible rfl)
          try simp only [Act.put, List.setIfInBounds_toArray, List.set_cons_zero, List.set_cons_succ]
          refine wpAnyH_take (i := 3) (oi := { dst := some 81, op := Op.load 3 (Operand.tmp 80), type := 3, pos := "ref.go:112", after := #[{ on := 2, ground := Ground.data }], guard := none }) (v := ?qdv3) rfl (by kernel_rfl) (by kernel_rfl) (by kernel_rfl) (fun _ _ _ h => h) (Or.inl ⟨by rfl, ?qdh3⟩) (by assumption) ?qdr3
          case qdh3 => ((intro w hSw; (try dsimp only at hSw); go_simp); try with_reducible rfl)
          try simp only [Act.put, List.setIfInBounds_toArray, List.set_cons_zero, List.set_cons_succ]
          refine wpAnyH_take (i := 4) (oi := { dst := some 82, op := Op.binOp BinOp.gtr 3 (Operand.tmp 81) (Operand.const (Value.int IntKind.i64 0)) 3, type := 4, pos := "ref.go:112", after := #[{ on := 3, ground := Ground.data }], guard := none }) (v := ?qdv4) rfl (by kernel_rfl) (by kernel_rfl) (by kernel_rfl) (fun _ _ _ h => h) (Or.inl ⟨by rfl, ?qdh4⟩) (by assumption) ?qdr4
          case qdh4 => ((intro w hSw; (try dsimp only at hSw); go_simp); try with_reducible rfl)
          try simp only [Act.put, List.setIfInBounds_toArray, List.set_cons_zero, List.set_cons_succ]
          refine wpAnyH_take (i := 5) (oi := { dst := some 83, op := Op.move (Operand.tmp 82), type := 4, pos := "ref.go:112", after := #[{ on := 4, ground := Ground.data }], guard := none }) (v := ?qdv5) rfl (by kernel_rfl) (by kernel_rfl) (by kernel_rfl) (fun _ _ _ h => h) (Or.inl ⟨by rfl, ?qdh5⟩) (by assumption) ?qdr5
          case qdh5 => ((intro w hSw; (try dsimp only at hSw); go_simp); try with_reducible rfl)
          try simp only [Act.put, List.setIfInBounds_toArray, List.set_cons_zero, List.set_cons_succ]
          refine wpAnyH_take (i := 6) (oi := { dst := some 84, op := Op.move (Operand.tmp 5), type := 40, pos := "ref.go:112", after := #[{ on := 5, ground := Ground.guard }], guard := some (5, true) }) (v := undef) rfl (by kernel_rfl) (by kernel_rfl) (by kernel_rfl) (fun _ _ _ h => h) (Or.inr ⟨by rfl, rfl⟩) (by assumption) ?_
          try simp only [Act.put, List.setIfInBounds_toArray, List.set_cons_zero, List.set_cons_succ]
          refine wpAnyH_take (i := 7) (oi := { dst := some 85, op := Op.move (Operand.tmp 9), type := 3, pos := "ref.go:112", after := #[{ on := 5, ground := Ground.guard }], guard := some (5, true) }) (v := undef) rfl (by kernel_rfl) (by kernel_rfl) (by kernel_rfl) (fun _ _ _ h => h) (Or.inr ⟨by rfl, rfl⟩) (by assumption) ?_
          try simp only [Act.put, List.setIfInBounds_toArray, List.set_cons_zero, List.set_cons_succ]
          refine wpAnyH_take (i := 8) (oi := { dst := some 86, op := Op.indexAddr 40 (Operand.tmp 84) (Operand.tmp 85), type := 0, pos := "ref.go:112", after := #[{ on := 6, ground := Ground.data }, { on := 7, ground := Ground.data }, { on := 5, ground := Ground.guard }], guard := some (5, true) }) (v := undef) rfl (by kernel_rfl) (by kernel_rfl) (by kernel_rfl) (fun _ _ _ h => h) (Or.inr ⟨by rfl, rfl⟩) (by assumption) ?_
          try simp only [Act.put, List.setIfInBounds_toArray, List.set_cons_zero, List.set_cons_succ]
          refine wpAnyH_take (i := 9) (oi := { dst := some 87, op := Op.load 3 (Operand.tmp 86), type := 3, pos := "ref.go:112", after := #[{ on := 8, ground := Ground.data }, { on := 5, ground := Ground.guard }], guard := some (5, true) }) (v := undef) rfl (by kernel_rfl) (by kernel_rfl) (by kernel_rfl) (fun _ _ _ h => h) (Or.inr ⟨by rfl, rfl⟩) (by assumption) ?_
          try simp only [Act.put, List.setIfInBounds_toArray, List.set_cons_zero, List.set_cons_succ]
          refine wpAnyH_take (i := 10) (oi := { dst := some 88, op := Op.binOp BinOp.gtr 3 (Operand.tmp 87) (Operand.const (Value.int IntKind.i64 0)) 3, type := 4, pos := "ref.go:112", after := #[{ on := 9, ground := Ground.data }, { on := 5, ground := Ground.guard }], guard := some (5, true) }) (v := undef) rfl (by kernel_rfl) (by kernel_rfl) (by kernel_rfl) (fun _ _ _ h => h) (Or.inr ⟨by rfl, rfl⟩) (by assumption) ?_
          try simp only [Act.put, List.setIfInBounds_toArray, List.set_cons_zero, List.set_cons_succ]
          refine wpAnyH_take (i := 11) (oi := { dst := some 89, op := Op.pick (Operand.tmp 83) (Operand.tmp 88) (Operand.const (Value.bool false)), type := 4, pos := "ref.go:112", after := #[{ on := 5, ground := Ground.data }, { on := 10, ground := Ground.data }], guard := none }) (v := ?qdv11) rfl (by kernel_rfl) (by kernel_rfl) (by kernel_rfl) (fun _ _ _ h => h) (Or.inl ⟨by rfl, ?qdh11⟩) (by assumption) ?qdr11
          case qdh11 => ((intro w hSw; (try dsimp only at hSw); go_simp); try with_reducible rfl)
          try simp only [Act.put, List.setIfInBounds_toArray, List.set_cons_zero, List.set_cons_succ]
          refine wpAnyH_take (i := 12) (oi := { dst := some 90, op := Op.move (Operand.tmp 89), type := 4, pos := "ref.go:112", after := #[{ on := 11, ground := Ground.data }, { on := 5, ground := Ground.chain }], guard := none }) (v := ?qdv12) rfl (by kernel_rfl) (by kernel_rfl) (by kernel_rfl) (fun _ _ _ h => h) (Or.inl ⟨by rfl, ?qdh12⟩) (by assumption) ?qdr12
          case qdh12 => ((intro w hSw; (try dsimp only at hSw); go_simp); try with_reducible rfl)
          try simp only [Act.put, List.setIfInBounds_toArray, List.set_cons_zero, List.set_cons_succ]
          refine wpAnyH_take (i := 13) (oi := { dst := some 91, op := Op.move (Operand.tmp 5), type := 40, pos := "ref.go:112", after := #[{ on := 12, ground := Ground.guard }], guard := some (12, true) }) (v := undef) rfl (by kernel_rfl) (by kernel_rfl) (by kernel_rfl) (fun _ _ _ h => h) (Or.inr ⟨by rfl, rfl⟩) (by assumption) ?_
          try simp only [Act.put, List.setIfInBounds_toArray, List.set_cons_zero, List.set_cons_succ]
          refine wpAnyH_take (i := 14) (oi := { dst := some 92, op := Op.move (Operand.tmp 9), type := 3, pos := "ref.go:112", after := #[{ on := 12, ground := Ground.guard }], guard := some (12, true) }) (v := undef) rfl (by kernel_rfl) (by kernel_rfl) (by kernel_rfl) (fun _ _ _ h => h) (Or.inr ⟨by rfl, rfl⟩) (by assumption) ?_
          try simp only [Act.put, List.setIfInBounds_toArray, List.set_cons_zero, List.set_cons_succ]
          refine wpAnyH_take (i := 15) (oi := { dst := some 93, op := Op.indexAddr 40 (Operand.tmp 91) (Operand.tmp 92), type := 0, pos := "ref.go:112", after := #[{ on := 13, ground := Ground.data }, { on := 14, ground := Ground.data }, { on := 12, ground := Ground.guard }], guard := some (12, true) }) (v := undef) rfl (by kernel_rfl) (by kernel_rfl) (by kernel_rfl) (fun _ _ _ h => h) (Or.inr ⟨by rfl, rfl⟩) (by assumption) ?_
          try simp only [Act.put, List.setIfInBounds_toArray, List.set_cons_zero, List.set_cons_succ]
          refine wpAnyH_take (i := 16) (oi := { dst := some 94, op := Op.load 3 (Operand.tmp 93), type := 3, pos := "ref.go:112", after := #[{ on := 15, ground := Ground.data }, { on := 12, ground := Ground.guard }], guard := some (12, true) }) (v := undef) rfl (by kernel_rfl) (by kernel_rfl) (by kernel_rfl) (fun _ _ _ h => h) (Or.inr ⟨by rfl, rfl⟩) (by assumption) ?_
          try simp only [Act.put, List.setIfInBounds_toArray, List.set_cons_zero, List.set_cons_succ]
          refine wpAnyH_take (i := 17) (oi := { dst := some 95, op := Op.move (Operand.tmp 5), type := 40, pos := "ref.go:112", after := #[{ on := 12, ground := Ground.guard }], guard := some (12, true) }) (v := undef) rfl (by kernel_rfl) (by kernel_rfl) (by kernel_rfl) (fun _ _ _ h => h) (Or.inr ⟨by rfl, rfl⟩) (by assumption) ?_
          try simp only [Act.put, List.setIfInBounds_toArray, List.set_cons_zero, List.set_cons_succ]
          refine wpAnyH_take (i := 18) (oi := { dst := some 96, op := Op.move (Operand.tmp 8), type := 3, pos := "ref.go:112", after := #[{ on := 12, ground := Ground.guard }], guard := some (12, true) }) (v := undef) rfl (by kernel_rfl) (by kernel_rfl) (by kernel_rfl) (fun _ _ _ h => h) (Or.inr ⟨by rfl, rfl⟩) (by assumption) ?_
          try simp only [Act.put, List.setIfInBounds_toArray, List.set_cons_zero, List.set_cons_succ]
          refine wpAnyH_take (i := 19) (oi := { dst := some 97, op := Op.indexAddr 40 (Operand.tmp 95) (Operand.tmp 96), type := 0, pos := "ref.go:112", after := #[{ on := 17, ground := Ground.data }, { on := 18, ground := Ground.data }, { on := 12, ground := Ground.guard }], guard := some (12, true) }) (v := undef) rfl (by kernel_rfl) (by kernel_rfl) (by kernel_rfl) (fun _ _ _ h => h) (Or.inr ⟨by rfl, rfl⟩) (by assumption) ?_
          try simp only [Act.put, List.setIfInBounds_toArray, List.set_cons_zero, List.set_cons_succ]
          refine wpAnyH_take (i := 20) (oi := { dst := some 98, op := Op.load 3 (Operand.tmp 97), type := 3, pos := "ref.go:112", after := #[{ on := 19, ground := Ground.data }, { on := 12, ground := Ground.guard }], guard := some (12, true) }) (v := undef) rfl (by kernel_rfl) (by kernel_rfl) (by kernel_rfl) (fun _ _ _ h => h) (Or.inr ⟨by rfl, rfl⟩) (by assumption) ?_
          try simp only [Act.put, List.setIfInBounds_toArray, List.set_cons_zero, List.set_cons_succ]
          refine wpAnyH_take (i := 21) (oi := { dst := some 99, op := Op.binOp BinOp.lss 3 (Operand.tmp 94) (Operand.tmp 98) 3, type := 4, pos := "ref.go:112", after := #[{ on := 16, ground := Ground.data }, { on := 20, ground := Ground.data }, { on := 12, ground := Ground.guard }], guard := some (12, true) }) (v := undef) rfl (by kernel_rfl) (by kernel_rfl) (by kernel_rfl) (fun _ _ _ h => h) (Or.inr ⟨by rfl, rfl⟩) (by assumption) ?_
          try simp only [Act.put, List.setIfInBounds_toArray, List.set_cons_zero, List.set_cons_succ]
          refine wpAnyH_take (i := 22) (oi := { dst := some 100, op := Op.pick (Operand.tmp 90) (Operand.tmp 99) (Operand.const (Value.bool false)), type := 4, pos := "ref.go:112", after := #[{ on := 12, ground := Ground.data }, { on := 21, ground := Ground.data }], guard := none }) (v := ?qdv22) rfl (by kernel_rfl) (by kernel_rfl) (by kernel_rfl) (fun _ _ _ h => h) (Or.inl ⟨by rfl, ?qdh22⟩) (by assumption) ?qdr22
          case qdh22 => ((intro w hSw; (try dsimp only at hSw); go_simp); try with_reducible rfl)
          try simp only [Act.put, List.setIfInBounds_toArray, List.set_cons_zero, List.set_cons_succ]
          refine wpAnyH_take (i := 23) (oi := { dst := some 101, op := Op.move (Operand.tmp 100), type := 4, pos := "ref.go:112", after := #[{ on := 22, ground := Ground.data }, { on := 12, ground := Ground.chain }], guard := none }) (v := ?qdv23) rfl (by kernel_rfl) (by kernel_rfl) (by kernel_rfl) (fun _ _ _ h => h) (Or.inl ⟨by rfl, ?qdh23⟩) (by assumption) ?qdr23
          case qdh23 => ((intro w hSw; (try dsimp only at hSw); go_simp); try with_reducible rfl)
          try simp only [Act.put, List.setIfInBounds_toArray, List.set_cons_zero, List.set_cons_succ]
          refine wpAnyH_take (i := 24) (oi := { dst := some 102, op := Op.move (Operand.tmp 0), type := 32, pos := "ref.go:112", after := #[{ on := 23, ground := Ground.guard }], guard := some (23, true) }) (v := undef) rfl (by kernel_rfl) (by kernel_rfl) (by kernel_rfl) (fun _ _ _ h => h) (Or.inr ⟨by rfl, rfl⟩) (by assumption) ?_
          try simp only [Act.put, List.setIfInBounds_toArray, List.set_cons_zero, List.set_cons_succ]
          refine wpAnyH_take (i := 25) (oi := { dst := some 103, op := Op.move (Operand.tmp 8), type := 3, pos := "ref.go:112", after := #[{ on := 23, ground := Ground.guard }], guard := some (23, true) }) (v := undef) rfl (by kernel_rfl) (by kernel_rfl) (by kernel_rfl) (fun _ _ _ h => h) (Or.inr ⟨by rfl, rfl⟩) (by assumption) ?_
          try simp only [Act.put, List.setIfInBounds_toArray, List.set_cons_zero, List.set_cons_succ]
          refine wpAnyH_take (i := 26) (oi := { dst := some 104, op := Op.indexAddr 32 (Operand.tmp 102) (Operand.tmp 103), type := 0, pos := "ref.go:112", after := #[{ on := 24, ground := Ground.data }, { on := 25, ground := Ground.data }, { on := 23, ground := Ground.guard }], guard := some (23, true) }) (v := undef) rfl (by kernel_rfl) (by kernel_rfl) (by kernel_rfl) (fun _ _ _ h => h) (Or.inr ⟨by rfl, rfl⟩) (by assumption) ?_
          try simp only [Act.put, List.setIfInBounds_toArray, List.set_cons_zero, List.set_cons_succ]
          refine wpAnyH_take (i := 27) (oi := { dst := some 105, op := Op.load 35 (Operand.tmp 104), type := 35, pos := "ref.go:112", after := #[{ on := 26, ground := Ground.data }, { on := 23, ground := Ground.guard }], guard := some (23, true) }) (v := undef) rfl (by kernel_rfl) (by kernel_rfl) (by kernel_rfl) (fun _ _ _ h => h) (Or.inr ⟨by rfl, rfl⟩) (by assumption) ?_
          try simp only [Act.put, List.setIfInBounds_toArray, List.set_cons_zero, List.set_cons_succ]
          refine wpAnyH_take (i := 28) (oi := { dst := some 106, op := Op.move (Operand.tmp 0), type := 32, pos := "ref.go:112", after := #[{ on := 23, ground := Ground.guard }], guard := some (23, true) }) (v := undef) rfl (by kernel_rfl) (by kernel_rfl) (by kernel_rfl) (fun _ _ _ h => h) (Or.inr ⟨by rfl, rfl⟩) (by assumption) ?_
          try simp only [Act.put, List.setIfInBounds_toArray, List.set_cons_zero, List.set_cons_succ]
          refine wpAnyH_take (i := 29) (oi := { dst := some 107, op := Op.move (Operand.tmp 9), type := 3, pos := "ref.go:112", after := #[{ on := 23, ground := Ground.guard }], guard := some (23, true) }) (v := undef) rfl (by kernel_rfl) (by kernel_rfl) (by kernel_rfl) (fun _ _ _ h => h) (Or.inr ⟨by rfl, rfl⟩) (by assumption) ?_
          try simp only [Act.put, List.setIfInBounds_toArray, List.set_cons_zero, List.set_cons_succ]
          refine wpAnyH_take (i := 30) (oi := { dst := some 108, op := Op.indexAddr 32 (Operand.tmp 106) (Operand.tmp 107), type := 0, pos := "ref.go:112", after := #[{ on := 28, ground := Ground.data }, { on := 29, ground := Ground.data }, { on := 23, ground := Ground.guard }], guard := some (23, true) }) (v := undef) rfl (by kernel_rfl) (by kernel_rfl) (by kernel_rfl) (fun _ _ _ h => h) (Or.inr ⟨by rfl, rfl⟩) (by assumption) ?_
          try simp only [Act.put, List.setIfInBounds_toArray, List.set_cons_zero, List.set_cons_succ]
          refine wpAnyH_take (i := 31) (oi := { dst := some 109, op := Op.load 35 (Operand.tmp 108), type := 35, pos := "ref.go:112", after := #[{ on := 30, ground := Ground.data }, { on := 23, ground := Ground.guard }], guard := some (23, true) }) (v := undef) rfl (by kernel_rfl) (by kernel_rfl) (by kernel_rfl) (fun _ _ _ h => h) (Or.inr ⟨by rfl, rfl⟩) (by assumption) ?_
          try simp only [Act.put, List.setIfInBounds_toArray, List.set_cons_zero, List.set_cons_succ]
          refine wpAnyH_take (i := 32) (oi := { dst := some 110, op := Op.call { callee := Callee.value (Operand.func 35), args := #[Operand.tmp 105, Operand.tmp 109], argTypes := #[35, 35] }, type := 4, pos := "ref.go:112", after := #[{ on := 27, ground := Ground.data }, { on := 31, ground := Ground.data }, { on := 23, ground := Ground.chain }, { on := 23, ground := Ground.guard }], guard := some (23, true) }) (v := undef) rfl (by kernel_rfl) (by kernel_rfl) (by kernel_rfl) (fun _ _ _ h => h) (Or.inr ⟨by rfl, rfl⟩) (by assumption) ?_
          try simp only [Act.put, List.setIfInBounds_toArray, List.set_cons_zero, List.set_cons_succ]
          refine wpAnyH_take (i := 33) (oi := { dst := some 111, op := Op.pick (Operand.tmp 101) (Operand.tmp 110) (Operand.const (Value.bool false)), type := 4, pos := "ref.go:112", after := #[{ on := 23, ground := Ground.data }, { on := 32, ground := Ground.data }], guard := none }) (v := ?qdv33) rfl (by kernel_rfl) (by kernel_rfl) (by kernel_rfl) (fun _ _ _ h => h) (Or.inl ⟨by rfl, ?qdh33⟩) (by assumption) ?qdr33
          case qdh33 => ((intro w hSw; (try dsimp only at hSw); go_simp); try with_reducible rfl)
          try simp only [Act.put, List.setIfInBounds_toArray, List.set_cons_zero, List.set_cons_succ]
          refine wpAnyH_done (by kernel_rfl) ?_ _
          go_wp2_with fail
          go_meet
          exact ⟨rfl, by assumption⟩
        case rest =>
         obtain ⟨rfl, hbc⟩ := hcut
         have hbw := below_tr hbc HB4.out
         clear a0 a1 a2 a3 a4 a5 a6 a7 d0 d1 d2 d3 d4 d5 d6 d7 z0 z1
         go_wp2
         exact ⟨⟨k + 1, by omega, by go_num, hbw⟩, by simp [intOf]; omega⟩
       ·have hke : k = l.length := by omega
        subst hke
        go_wp2
        exact ⟨⟨i + 1, by omega, by go_num, HB4.out⟩, by simp [intOf]; omega⟩
    ·have hie2 : i = l.length := by omega
     subst hie2
     go_wp2_with (go_at_call 36; (with_reducible refine (HST.out _ (HB.out.trans (HB3.out.mono hz5))).mono ?_); rintro e w8 ⟨rfl, hb8⟩; have HB8 := hid hb8; clear hb8)
     go_ret
     exact ⟨rfl, (HB.out.trans (HB3.out.mono hz5)).trans (HB8.out.mono (by have := HB3.out.size; omega))⟩
end Go.Proofs.YtabkmdhkfbcldaaGreat
