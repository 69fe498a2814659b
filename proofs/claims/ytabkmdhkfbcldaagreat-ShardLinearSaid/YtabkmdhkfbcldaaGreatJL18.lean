/-
 steps of the document.
-/
import Derived.Test.YtabkmdhkfbcldaaGreatJL17
namespace Go.Proofs.YtabkmdhkfbcldaaGreat
open Go.RowKit
abbrev OwnP (W : World) (base : Nat) (v : Value) (m : Prs) : Prop := W.ownsRow base 119 2 v m.length (m.flatMap pairC)
def StRel (l : List Cl) (o : List Nat) (w : World) (v i : Value) (wr : World) : Prop :=
 ∃ (k : Nat) (m : Prs), k ≤ o.length ∧ i = .int .i64 k ∧ m.length ≤ k ∧ OwnP wr w.heap.size v m ∧ stpR [] (o.map (cAt l)) = stpR m ((o.drop k).map (cAt l)) ∧ Below w.heap.size w wr
def stBad (c : Cl) (st : Option Int) : Bool := !(applyC c st).2.2.2 || (decide (0 ≤ c.to) && (decide ((applyC c st).1 ≠ c.ans) || decide ((applyC c st).2.1 ≠ c.err)))
theorem stBad_ok {c : Cl} (h : OneC c) (st : Option Int) : stBad c st = !stepOk c st := by
 unfold stBad stepOk
 have ht := ended_iff h
 cases (applyC c st).2.2.2 with
 | false => rfl
 | true =>
  by_cases h1 : c.to = -1
  ·have : ¬ (0 ≤ c.to) := by omega
   simp [h1]
  ·have : 0 ≤ c.to := ht.1 h1
   simp only [Bool.not_true, Bool.false_or, Bool.true_and, h1, decide_false, Bool.false_or, decide_eq_true this]
   by_cases a : (applyC c st).1 = c.ans <;> by_cases b : (applyC c st).2.1 = c.err <;> simp [a, b]
theorem stp_drop {l : List Cl} {o : List Nat} {m : Prs} {k : Nat} (hk : k < o.length) : stpR m ((o.drop k).map (cAt l)) = (stepOk (cAt l (o.getD k 0)) (getV m (cAt l (o.getD k 0)).key) && stpR (stpM m (cAt l (o.getD k 0))) ((o.drop (k + 1)).map (cAt l))) := by
 have e : o.getD k 0 = o[k] := by simp [List.getD_eq_getElem?_getD, hk]
 rw [e, List.drop_eq_getElem_cons hk]; rfl
theorem stb_ok2 {cn S : Bool} {cto n1 can e1 cer : Int} (h : (!cn || (decide (0 ≤ cto) && (decide (n1 ≠ can) || decide (e1 ≠ cer)))) = !S) (h1 : cn = true) (h2 : n1 = can) (h3 : e1 = cer) : S = true := by subst h1 h2 h3; simpa using h
theorem stb_bad1 {cn S : Bool} {cto n1 can e1 cer : Int} (h : (!cn || (decide (0 ≤ cto) && (decide (n1 ≠ can) || decide (e1 ≠ cer)))) = !S) (h1 : 0 ≤ cto) (h2 : ¬ n1 = can) : S = false := by cases S <;> simp_all
theorem stb_bad2 {cn S : Bool} {cto n1 can e1 cer : Int} (h : (!cn || (decide (0 ≤ cto) && (decide (n1 ≠ can) || decide (e1 ≠ cer)))) = !S) (h1 : 0 ≤ cto) (h2 : ¬ e1 = cer) : S = false := by cases S <;> simp_all
theorem stb_bad3 {cn S : Bool} {cto n1 can e1 cer : Int} (h : (!cn || (decide (0 ≤ cto) && (decide (n1 ≠ can) || decide (e1 ≠ cer)))) = !S) (h1 : cn = false) : S = false := by cases S <;> simp_all
theorem stb_ok1 {cn S : Bool} {cto n1 can e1 cer : Int} (h : (!cn || (decide (0 ≤ cto) && (decide (n1 ≠ can) || decide (e1 ≠ cer)))) = !S) (h1 : cn = true) (h2 : ¬ 0 ≤ cto) : S = true := by rw [decide_eq_false h2, h1] at h; simpa using h
theorem below_al2 {B C : World} {o : Obj} (h2 : Below (B.alloc o).heap.size (B.alloc o) C) : Below B.heap.size B C := ((Below.refl B.heap.size B).alloc (Nat.le_refl _) o).trans (h2.mono (by simp))
theorem stpM_snd (m : Prs) (c : Cl) : stpM m c = match getV m c.key with | some _ => m | none => if c.kind = 1 then m ++ [(c.key, c.value)] else m := rfl
set_option maxRecDepth 20000 in
set_option maxHeartbeats 8000000 in
theorem steps_any (l : List Cl) (p : Option Addr) (c : Nat) (o : List Nat) (q : Option Addr) (d : Nat) (w : World) (hl : l.length ≤ 1000000) (hol : o.length ≤ 1000000) (hrow : Row w p (l.flatMap Cl.cellsLn)) (ho : Row w q (o.map natVLn)) (hlt : ∀ i ∈ o, i < l.length) (h1 : ∀ i, i < l.length → OneC (cAt l i)) :
  Calls Tryz.prog 36 #[.slice p l.length c, .slice q o.length d] w fun e w' => e = .returned (.bool (stpR [] (o.map (cAt l)))) ∧ Below w.heap.size w w' := by
 have HR := hid hrow
 have HO := hid ho
 have HLT := hid hlt
 have HON := hid h1
 clear hrow ho hlt h1
 go_enter Tryz.func36, Tryz.ntmps36
 go_wp2
 go_loopw [5, 6] (StRel l o w) (fun _ i _ => o.length - (intOf i).toNat)
 case atStart => exact ⟨0, [], Nat.zero_le _, rfl, Nat.le_refl _, ⟨rfl, .inl ⟨rfl, rfl⟩⟩, rfl, Below.refl _ _⟩
 case round =>
  obtain ⟨k, m, hk, rfl, hmk, hown, hst, hb⟩ := hrel
  have HOW := hid hown
  have HST := hid hst
  have HB := hid hb
  obtain ⟨pm, cm, rfl, -⟩ := own_shape hown
  clear hown hst hb
  by_cases hlt : k < o.length
  ·have hro := HO.out.below HB.out
   obtain ⟨bo, oo, rfl, hbo, -⟩ := hro.at (by simpa using (show 0 < o.length by omega))
   have cx := nat_at hro k hlt
   have hxl := getD_lt HLT.out hlt
   have HS2 := hid (HST.out.trans (stp_drop hlt))
   generalize o.getD k 0 = x at cx hxl HS2
   obtain ⟨bl, ol, rfl, hbl, -⟩ := (HR.out.below HB.out).at (by have := flat_len Cl.cellsLn 8 (fun _ => rfl) l; omega)
   obtain ⟨d0, d1, d2, d3, d4, d5, d6, d7⟩ := cl_cat (HR.out.below HB.out) x hxl
   have HONE := hid (HON.out x hxl)
   clear hro HST
   obtain ⟨⟨cw, ckd, cky, cva, cfr, cto, can, cer⟩, hcc⟩ : ∃ y, y = cAt l x := ⟨_, rfl⟩
   rw [← hcc] at d0 d1 d2 d3 d4 d5 d6 d7 HS2 HONE
   dsimp only at d0 d1 d2 d3 d4 d5 d6 d7
   clear hcc
   have hml : m.length ≤ 1000000 := by omega
   have HGT := hid (fun (w1 : World) (hb : Below wr.heap.size wr w1) => get_anyLn m pm cm cky w1 hml (own_slice_row (own_below HOW.out hb)))
   have HAP := hid (fun (st : Option Int) (w1 : World) => apply_any ⟨cw, ckd, cky, cva, cfr, cto, can, cer⟩ st w1)
   unfold Cl.cellsLn applyV at HAP
   dsimp only at HAP
   have hb1 : Hid (∀ o1 : Obj, Below wr.heap.size wr (wr.alloc o1)) := fun o1 => (Below.refl _ _).alloc (Nat.le_refl _) o1
   have hx1 : decide ((x : Int) < 0) = false := decide_eq_false (by omega)
   cases hg : idxG m cky with
   | some j =>
    obtain ⟨hj, hgv⟩ := idxG_some hg
    have HSB := hid (stBad_ok HONE.out (some m[j].2))
    have HMM : Hid (stpM m ⟨cw, ckd, cky, cva, cfr, cto, can, cer⟩ = m) := by unfold Hid; rw [stpM_snd]; simp only [hgv]
    dsimp only at HS2
    rw [hgv, HMM.out] at HS2
    rw [hg] at HGT
    obtain ⟨bm, om, rfl, hbm, -⟩ := (own_slice_row HOW.out).at (by have := flat_len pairC 2 (fun _ => rfl) m; omega)
    obtain ⟨z0, z1⟩ := pair_cells (own_slice_row HOW.out) j hj
    have HZ := hid (fun (w1 : World) (hb : Below wr.heap.size wr w1) => (pair_cells ((own_slice_row HOW.out).below hb) j hj).2)
    have hbm2 : bm < wr.heap.size + 1 := by omega
    have HAP2 := hid (HAP.out (some m[j].2))
    clear HAP hg hgv HMM z0
    generalize m[j].2 = vj at *
    simp only [Option.isSome_some, Option.getD_some, idxN] at HGT HAP2
    have hj1 : decide ((j : Int) < 0) = false := decide_eq_false (by omega)
    unfold stBad at HSB
    dsimp only at HSB
    obtain ⟨n1, e1, hR⟩ : ∃ n1 e1, applyC ⟨cw, ckd, cky, cva, cfr, cto, can, cer⟩ (some vj) = (n1, e1, some vj, true) := by
     unfold applyC; by_cases hk : ckd = 1 <;> simp [hk]
    rw [hR] at HSB HAP2
    simp only [Option.isSome_some, Option.getD_some] at HAP2 HSB
    clear hR
    by_cases ht : cto < 0
    ·have ht2 : ¬ (0 ≤ cto) := by omega
     have HSK : Hid (stpR [] (o.map (cAt l)) = stpR m ((o.drop (k + 1)).map (cAt l))) := by
      have h := HSB.out
      have h2 := HS2.out
      rw [stb_ok1 h rfl ht2] at h2
      simpa [Hid] using h2
     clear HS2 HSB
     go_wp2_with (first
      | (go_at_call 57; (with_reducible refine (HGT.out _ (hb1.out _)).mono ?_); rintro e w5 ⟨rfl, rfl⟩)
      | (go_at_call 58; (with_reducible refine (HAP2.out _).mono ?_); rintro e w6 ⟨rfl, hb6⟩; have HB6 := hid hb6; have hbk := (hb6.block wr.heap.size (by simp)).trans (heap_alloc_new wr _); have y2 := cell_of_row _ _ 2 _ _ _ hbk; have y5 := cell_of_row _ _ 5 _ _ _ hbk; have y6 := cell_of_row _ _ 6 _ _ _ hbk; have y7 := cell_of_row _ _ 7 _ _ _ hbk; have hz6 := hb6.size; simp only [World.size_alloc] at hz6; simp only [List.getElem?_toArray, List.getElem?_cons_zero, List.getElem?_cons_succ] at y2 y5 y6 y7; clear hb6 hbk))
     exact ⟨⟨k + 1, m, by omega, by go_num, by omega, own_below HOW.out (below_al2 HB6.out), HSK.out, below_al HB.out HB6.out⟩, by simp [intOf]; omega⟩
    ·have ht2 : 0 ≤ cto := by omega
     by_cases ha : n1 = can
     ·subst ha
      by_cases he : e1 = cer
      ·subst he
       have HSK : Hid (stpR [] (o.map (cAt l)) = stpR m ((o.drop (k + 1)).map (cAt l))) := by
        have h := HSB.out
        have h2 := HS2.out
        rw [stb_ok2 h rfl rfl rfl] at h2
        simpa [Hid] using h2
       clear HS2 HSB
       go_wp2_with (first
        | (go_at_call 57; (with_reducible refine (HGT.out _ (hb1.out _)).mono ?_); rintro e w5 ⟨rfl, rfl⟩)
        | (go_at_call 58; (with_reducible refine (HAP2.out _).mono ?_); rintro e w6 ⟨rfl, hb6⟩; have HB6 := hid hb6; have hbk := (hb6.block wr.heap.size (by simp)).trans (heap_alloc_new wr _); have y2 := cell_of_row _ _ 2 _ _ _ hbk; have y5 := cell_of_row _ _ 5 _ _ _ hbk; have y6 := cell_of_row _ _ 6 _ _ _ hbk; have y7 := cell_of_row _ _ 7 _ _ _ hbk; have hz6 := hb6.size; simp only [World.size_alloc] at hz6; simp only [List.getElem?_toArray, List.getElem?_cons_zero, List.getElem?_cons_succ] at y2 y5 y6 y7; clear hb6 hbk))
       exact ⟨⟨k + 1, m, by omega, by go_num, by omega, own_below HOW.out (below_al2 HB6.out), HSK.out, below_al HB.out HB6.out⟩, by simp [intOf]; omega⟩
      ·have he1 : (e1 != cer) = true := by simpa using he
       have he2 : (e1 == cer) = false := by simpa using he
       have HSK : Hid (stpR [] (o.map (cAt l)) = false) := by
        have h := HSB.out
        have h2 := HS2.out
        rw [stb_bad2 h ht2 he] at h2
        simpa [Hid] using h2
       clear HS2 HSB
       go_wp2_with (first
        | (go_at_call 57; (with_reducible refine (HGT.out _ (hb1.out _)).mono ?_); rintro e w5 ⟨rfl, rfl⟩)
        | (go_at_call 58; (with_reducible refine (HAP2.out _).mono ?_); rintro e w6 ⟨rfl, hb6⟩; have HB6 := hid hb6; have hbk := (hb6.block wr.heap.size (by simp)).trans (heap_alloc_new wr _); have y2 := cell_of_row _ _ 2 _ _ _ hbk; have y5 := cell_of_row _ _ 5 _ _ _ hbk; have y6 := cell_of_row _ _ 6 _ _ _ hbk; have y7 := cell_of_row _ _ 7 _ _ _ hbk; have hz6 := hb6.size; simp only [World.size_alloc] at hz6; simp only [List.getElem?_toArray, List.getElem?_cons_zero, List.getElem?_cons_succ] at y2 y5 y6 y7; clear hb6 hbk))
       go_ret
       exact ⟨ret_bool HSK.out.symm, below_al HB.out HB6.out⟩
     ·have ha1 : (n1 != can) = true := by simpa using ha
      have ha2 : (n1 == can) = false := by simpa using ha
      have HSK : Hid (stpR [] (o.map (cAt l)) = false) := by
       have h := HSB.out
       have h2 := HS2.out
       rw [stb_bad1 h ht2 ha] at h2
       simpa [Hid] using h2
      clear HS2 HSB
      go_wp2_with (first
       | (go_at_call 57; (with_reducible refine (HGT.out _ (hb1.out _)).mono ?_); rintro e w5 ⟨rfl, rfl⟩)
       | (go_at_call 58; (with_reducible refine (HAP2.out _).mono ?_); rintro e w6 ⟨rfl, hb6⟩; have HB6 := hid hb6; have hbk := (hb6.block wr.heap.size (by simp)).trans (heap_alloc_new wr _); have y2 := cell_of_row _ _ 2 _ _ _ hbk; have y5 := cell_of_row _ _ 5 _ _ _ hbk; have y6 := cell_of_row _ _ 6 _ _ _ hbk; have y7 := cell_of_row _ _ 7 _ _ _ hbk; have hz6 := hb6.size; simp only [World.size_alloc] at hz6; simp only [List.getElem?_toArray, List.getElem?_cons_zero, List.getElem?_cons_succ] at y2 y5 y6 y7; clear hb6 hbk))
      go_ret
      exact ⟨ret_bool HSK.out.symm, below_al HB.out HB6.out⟩
   | none =>
    have hgv := idxG_none hg
    have HSB := hid (stBad_ok HONE.out none)
    dsimp only at HS2
    rw [hgv] at HS2
    rw [hg] at HGT
    have HAP2 := hid (HAP.out none)
    clear HAP hg
    simp only [Option.isSome_none, Option.getD_none, idxN] at HGT HAP2
    unfold stBad at HSB
    dsimp only at HSB
    by_cases hk : ckd = 1
    ·have hR : applyC ⟨cw, ckd, cky, cva, cfr, cto, can, cer⟩ none = (0, 0, some cva, true) := by unfold applyC; simp [hk]
     have HMM : Hid (stpM m ⟨cw, ckd, cky, cva, cfr, cto, can, cer⟩ = m ++ [(cky, cva)]) := by unfold Hid; rw [stpM_snd]; simp only [hgv]; rw [if_pos hk]
     rw [hR] at HSB HAP2
     rw [HMM.out] at HS2
     simp only [Option.isSome_some, Option.getD_some] at HAP2 HSB
     clear hR HMM hgv hk
     obtain ⟨n1, hn1⟩ : ∃ n1 : Int, n1 = 0 := ⟨_, rfl⟩
     obtain ⟨e1, he1⟩ : ∃ e1 : Int, e1 = 0 := ⟨_, rfl⟩
     have HAP2 : Hid (∀ w1 : World, Calls Tryz.prog 58 #[.agg #[.int .i64 cw, .int .i64 ckd, .string cky, .int .i64 cva, .int .i64 cfr, .int .i64 cto, .int .i64 can, .int .i64 cer], .bool false, .int .i64 0] w1 fun e w' => e = .returned (.tuple #[.int .i64 n1, .int .i64 e1, .bool true, .int .i64 cva, .bool true]) ∧ Below w1.heap.size w1 w') := by rw [hn1, he1]; exact HAP2
     have HSB : Hid ((!true || (decide (0 ≤ cto) && (decide (n1 ≠ can) || decide (e1 ≠ cer)))) = !stepOk ⟨cw, ckd, cky, cva, cfr, cto, can, cer⟩ none) := by rw [hn1, he1]; exact HSB
     clear hn1 he1
     by_cases ht : cto < 0
     ·have ht2 : ¬ (0 ≤ cto) := by omega
      have HSK : Hid (stpR [] (o.map (cAt l)) = stpR (m ++ [(cky, cva)]) ((o.drop (k + 1)).map (cAt l))) := by
       have h := HSB.out
       have h2 := HS2.out
       rw [stb_ok1 h rfl ht2] at h2
       simpa [Hid] using h2
      clear HS2 HSB
      go_wp2_with (first
       | (go_at_call 57; (with_reducible refine (HGT.out _ (hb1.out _)).mono ?_); rintro e w5 ⟨rfl, rfl⟩)
       | (go_at_call 58; (with_reducible refine (HAP2.out _).mono ?_); rintro e w6 ⟨rfl, hb6⟩; have HB6 := hid hb6; have hbk := (hb6.block wr.heap.size (by simp)).trans (heap_alloc_new wr _); have y2 := cell_of_row _ _ 2 _ _ _ hbk; have y5 := cell_of_row _ _ 5 _ _ _ hbk; have y6 := cell_of_row _ _ 6 _ _ _ hbk; have y7 := cell_of_row _ _ 7 _ _ _ hbk; have hz6 := hb6.size; simp only [World.size_alloc] at hz6; simp only [List.getElem?_toArray, List.getElem?_cons_zero, List.getElem?_cons_succ] at y2 y5 y6 y7; clear hb6 hbk)
       | ((with_reducible show wpList _ _ _ (⟨some 82, _, _, _, _, _⟩ :: _) _ _); go_loud (refine wpList_app EPair rfl _ _ rfl w.heap.size _ _ _ rfl ((own_below HOW.out (below_al2 HB6.out)).alloc _) _ 1 1 [.string cky, .int .i64 cva] rfl rfl (by simp) (row_newAt _ _ _ _ (by simp)) (by simp [Value.oneCell']) (by unfold maxLen; omega) (by omega) (by have := HB.out.size; simp; omega) ?_); intro v8 w8 ho8 hg8 hs8; have HO8 := hid ho8; have HG8 := hid hg8; obtain ⟨p8, c8, rfl, -⟩ := own_shape ho8; clear ho8 hg8 hs8))
      exact ⟨⟨k + 1, m ++ [(cky, cva)], by omega, by go_num, by simp; omega, own_cast HO8.out (by simp) (by simp [pairC]), HSK.out, ((below_al HB.out HB6.out).alloc (below_al HB.out HB6.out).size _).grown HG8.out (by have := (below_al HB.out HB6.out).size; simp; omega) (fun g e => own_ge HOW.out g e)⟩, by simp [intOf]; omega⟩
     ·have ht2 : 0 ≤ cto := by omega
      by_cases ha : n1 = can
      ·subst ha
       by_cases he : e1 = cer
       ·subst he
        have HSK : Hid (stpR [] (o.map (cAt l)) = stpR (m ++ [(cky, cva)]) ((o.drop (k + 1)).map (cAt l))) := by
         have h := HSB.out
         have h2 := HS2.out
         rw [stb_ok2 h rfl rfl rfl] at h2
         simpa [Hid] using h2
        clear HS2 HSB
        go_wp2_with (first
         | (go_at_call 57; (with_reducible refine (HGT.out _ (hb1.out _)).mono ?_); rintro e w5 ⟨rfl, rfl⟩)
         | (go_at_call 58; (with_reducible refine (HAP2.out _).mono ?_); rintro e w6 ⟨rfl, hb6⟩; have HB6 := hid hb6; have hbk := (hb6.block wr.heap.size (by simp)).trans (heap_alloc_new wr _); have y2 := cell_of_row _ _ 2 _ _ _ hbk; have y5 := cell_of_row _ _ 5 _ _ _ hbk; have y6 := cell_of_row _ _ 6 _ _ _ hbk; have y7 := cell_of_row _ _ 7 _ _ _ hbk; have hz6 := hb6.size; simp only [World.size_alloc] at hz6; simp only [List.getElem?_toArray, List.getElem?_cons_zero, List.getElem?_cons_succ] at y2 y5 y6 y7; clear hb6 hbk)
         | ((with_reducible show wpList _ _ _ (⟨some 82, _, _, _, _, _⟩ :: _) _ _); go_loud (refine wpList_app EPair rfl _ _ rfl w.heap.size _ _ _ rfl ((own_below HOW.out (below_al2 HB6.out)).alloc _) _ 1 1 [.string cky, .int .i64 cva] rfl rfl (by simp) (row_newAt _ _ _ _ (by simp)) (by simp [Value.oneCell']) (by unfold maxLen; omega) (by omega) (by have := HB.out.size; simp; omega) ?_); intro v8 w8 ho8 hg8 hs8; have HO8 := hid ho8; have HG8 := hid hg8; obtain ⟨p8, c8, rfl, -⟩ := own_shape ho8; clear ho8 hg8 hs8))
        exact ⟨⟨k + 1, m ++ [(cky, cva)], by omega, by go_num, by simp; omega, own_cast HO8.out (by simp) (by simp [pairC]), HSK.out, ((below_al HB.out HB6.out).alloc (below_al HB.out HB6.out).size _).grown HG8.out (by have := (below_al HB.out HB6.out).size; simp; omega) (fun g e => own_ge HOW.out g e)⟩, by simp [intOf]; omega⟩
       ·have he1 : (e1 != cer) = true := by simpa using he
        have he2 : (e1 == cer) = false := by simpa using he
        have HSK : Hid (stpR [] (o.map (cAt l)) = false) := by
         have h := HSB.out
         have h2 := HS2.out
         rw [stb_bad2 h ht2 he] at h2
         simpa [Hid] using h2
        clear HS2 HSB
        go_wp2_with (first
         | (go_at_call 57; (with_reducible refine (HGT.out _ (hb1.out _)).mono ?_); rintro e w5 ⟨rfl, rfl⟩)
         | (go_at_call 58; (with_reducible refine (HAP2.out _).mono ?_); rintro e w6 ⟨rfl, hb6⟩; have HB6 := hid hb6; have hbk := (hb6.block wr.heap.size (by simp)).trans (heap_alloc_new wr _); have y2 := cell_of_row _ _ 2 _ _ _ hbk; have y5 := cell_of_row _ _ 5 _ _ _ hbk; have y6 := cell_of_row _ _ 6 _ _ _ hbk; have y7 := cell_of_row _ _ 7 _ _ _ hbk; have hz6 := hb6.size; simp only [World.size_alloc] at hz6; simp only [List.getElem?_toArray, List.getElem?_cons_zero, List.getElem?_cons_succ] at y2 y5 y6 y7; clear hb6 hbk))
        go_ret
        exact ⟨ret_bool HSK.out.symm, below_al HB.out HB6.out⟩
      ·have ha1 : (n1 != can) = true := by simpa using ha
       have ha2 : (n1 == can) = false := by simpa using ha
       have HSK : Hid (stpR [] (o.map (cAt l)) = false) := by
        have h := HSB.out
        have h2 := HS2.out
        rw [stb_bad1 h ht2 ha] at h2
        simpa [Hid] using h2
       clear HS2 HSB
       go_wp2_with (first
        | (go_at_call 57; (with_reducible refine (HGT.out _ (hb1.out _)).mono ?_); rintro e w5 ⟨rfl, rfl⟩)
        | (go_at_call 58; (with_reducible refine (HAP2.out _).mono ?_); rintro e w6 ⟨rfl, hb6⟩; have HB6 := hid hb6; have hbk := (hb6.block wr.heap.size (by simp)).trans (heap_alloc_new wr _); have y2 := cell_of_row _ _ 2 _ _ _ hbk; have y5 := cell_of_row _ _ 5 _ _ _ hbk; have y6 := cell_of_row _ _ 6 _ _ _ hbk; have y7 := cell_of_row _ _ 7 _ _ _ hbk; have hz6 := hb6.size; simp only [World.size_alloc] at hz6; simp only [List.getElem?_toArray, List.getElem?_cons_zero, List.getElem?_cons_succ] at y2 y5 y6 y7; clear hb6 hbk))
       go_ret
       exact ⟨ret_bool HSK.out.symm, below_al HB.out HB6.out⟩
    ·have HMM : Hid (stpM m ⟨cw, ckd, cky, cva, cfr, cto, can, cer⟩ = m) := by unfold Hid; rw [stpM_snd]; simp only [hgv]; rw [if_neg hk]
     rw [HMM.out] at HS2
     clear HMM hgv
     by_cases hk2 : ckd = 2
     ·have hR : applyC ⟨cw, ckd, cky, cva, cfr, cto, can, cer⟩ none = (0, 4, none, true) := by unfold applyC; simp [hk2]
      rw [hR] at HSB HAP2
      simp only [Option.isSome_none, Option.getD_none] at HAP2 HSB
      clear hR hk hk2
      obtain ⟨n1, hn1⟩ : ∃ n1 : Int, n1 = 0 := ⟨_, rfl⟩
      obtain ⟨e1, he1⟩ : ∃ e1 : Int, e1 = 4 := ⟨_, rfl⟩
      have HAP2 : Hid (∀ w1 : World, Calls Tryz.prog 58 #[.agg #[.int .i64 cw, .int .i64 ckd, .string cky, .int .i64 cva, .int .i64 cfr, .int .i64 cto, .int .i64 can, .int .i64 cer], .bool false, .int .i64 0] w1 fun e w' => e = .returned (.tuple #[.int .i64 n1, .int .i64 e1, .bool false, .int .i64 0, .bool true]) ∧ Below w1.heap.size w1 w') := by rw [hn1, he1]; exact HAP2
      have HSB : Hid ((!true || (decide (0 ≤ cto) && (decide (n1 ≠ can) || decide (e1 ≠ cer)))) = !stepOk ⟨cw, ckd, cky, cva, cfr, cto, can, cer⟩ none) := by rw [hn1, he1]; exact HSB
      clear hn1 he1
      by_cases ht : cto < 0
      ·have ht2 : ¬ (0 ≤ cto) := by omega
       have HSK : Hid (stpR [] (o.map (cAt l)) = stpR m ((o.drop (k + 1)).map (cAt l))) := by
        have h := HSB.out
        have h2 := HS2.out
        rw [stb_ok1 h rfl ht2] at h2
        simpa [Hid] using h2
       clear HS2 HSB
       go_wp2_with (first
        | (go_at_call 57; (with_reducible refine (HGT.out _ (hb1.out _)).mono ?_); rintro e w5 ⟨rfl, rfl⟩)
        | (go_at_call 58; (with_reducible refine (HAP2.out _).mono ?_); rintro e w6 ⟨rfl, hb6⟩; have HB6 := hid hb6; have hbk := (hb6.block wr.heap.size (by simp)).trans (heap_alloc_new wr _); have y2 := cell_of_row _ _ 2 _ _ _ hbk; have y5 := cell_of_row _ _ 5 _ _ _ hbk; have y6 := cell_of_row _ _ 6 _ _ _ hbk; have y7 := cell_of_row _ _ 7 _ _ _ hbk; have hz6 := hb6.size; simp only [World.size_alloc] at hz6; simp only [List.getElem?_toArray, List.getElem?_cons_zero, List.getElem?_cons_succ] at y2 y5 y6 y7; clear hb6 hbk))
       exact ⟨⟨k + 1, m, by omega, by go_num, by omega, own_below HOW.out (below_al2 HB6.out), HSK.out, below_al HB.out HB6.out⟩, by simp [intOf]; omega⟩
      ·have ht2 : 0 ≤ cto := by omega
       by_cases ha : n1 = can
       ·subst ha
        by_cases he : e1 = cer
        ·subst he
         have HSK : Hid (stpR [] (o.map (cAt l)) = stpR m ((o.drop (k + 1)).map (cAt l))) := by
          have h := HSB.out
          have h2 := HS2.out
          rw [stb_ok2 h rfl rfl rfl] at h2
          simpa [Hid] using h2
         clear HS2 HSB
         go_wp2_with (first
          | (go_at_call 57; (with_reducible refine (HGT.out _ (hb1.out _)).mono ?_); rintro e w5 ⟨rfl, rfl⟩)
          | (go_at_call 58; (with_reducible refine (HAP2.out _).mono ?_); rintro e w6 ⟨rfl, hb6⟩; have HB6 := hid hb6; have hbk := (hb6.block wr.heap.size (by simp)).trans (heap_alloc_new wr _); have y2 := cell_of_row _ _ 2 _ _ _ hbk; have y5 := cell_of_row _ _ 5 _ _ _ hbk; have y6 := cell_of_row _ _ 6 _ _ _ hbk; have y7 := cell_of_row _ _ 7 _ _ _ hbk; have hz6 := hb6.size; simp only [World.size_alloc] at hz6; simp only [List.getElem?_toArray, List.getElem?_cons_zero, List.getElem?_cons_succ] at y2 y5 y6 y7; clear hb6 hbk))
         exact ⟨⟨k + 1, m, by omega, by go_num, by omega, own_below HOW.out (below_al2 HB6.out), HSK.out, below_al HB.out HB6.out⟩, by simp [intOf]; omega⟩
        ·have he1 : (e1 != cer) = true := by simpa using he
         have he2 : (e1 == cer) = false := by simpa using he
         have HSK : Hid (stpR [] (o.map (cAt l)) = false) := by
          have h := HSB.out
          have h2 := HS2.out
          rw [stb_bad2 h ht2 he] at h2
          simpa [Hid] using h2
         clear HS2 HSB
         go_wp2_with (first
          | (go_at_call 57; (with_reducible refine (HGT.out _ (hb1.out _)).mono ?_); rintro e w5 ⟨rfl, rfl⟩)
          | (go_at_call 58; (with_reducible refine (HAP2.out _).mono ?_); rintro e w6 ⟨rfl, hb6⟩; have HB6 := hid hb6; have hbk := (hb6.block wr.heap.size (by simp)).trans (heap_alloc_new wr _); have y2 := cell_of_row _ _ 2 _ _ _ hbk; have y5 := cell_of_row _ _ 5 _ _ _ hbk; have y6 := cell_of_row _ _ 6 _ _ _ hbk; have y7 := cell_of_row _ _ 7 _ _ _ hbk; have hz6 := hb6.size; simp only [World.size_alloc] at hz6; simp only [List.getElem?_toArray, List.getElem?_cons_zero, List.getElem?_cons_succ] at y2 y5 y6 y7; clear hb6 hbk))
         go_ret
         exact ⟨ret_bool HSK.out.symm, below_al HB.out HB6.out⟩
       ·have ha1 : (n1 != can) = true := by simpa using ha
        have ha2 : (n1 == can) = false := by simpa using ha
        have HSK : Hid (stpR [] (o.map (cAt l)) = false) := by
         have h := HSB.out
         have h2 := HS2.out
         rw [stb_bad1 h ht2 ha] at h2
         simpa [Hid] using h2
        clear HS2 HSB
        go_wp2_with (first
         | (go_at_call 57; (with_reducible refine (HGT.out _ (hb1.out _)).mono ?_); rintro e w5 ⟨rfl, rfl⟩)
         | (go_at_call 58; (with_reducible refine (HAP2.out _).mono ?_); rintro e w6 ⟨rfl, hb6⟩; have HB6 := hid hb6; have hbk := (hb6.block wr.heap.size (by simp)).trans (heap_alloc_new wr _); have y2 := cell_of_row _ _ 2 _ _ _ hbk; have y5 := cell_of_row _ _ 5 _ _ _ hbk; have y6 := cell_of_row _ _ 6 _ _ _ hbk; have y7 := cell_of_row _ _ 7 _ _ _ hbk; have hz6 := hb6.size; simp only [World.size_alloc] at hz6; simp only [List.getElem?_toArray, List.getElem?_cons_zero, List.getElem?_cons_succ] at y2 y5 y6 y7; clear hb6 hbk))
        go_ret
        exact ⟨ret_bool HSK.out.symm, below_al HB.out HB6.out⟩
     ·have hR : applyC ⟨cw, ckd, cky, cva, cfr, cto, can, cer⟩ none = (0, 0, none, false) := by unfold applyC; simp [hk, hk2]
      rw [hR] at HSB HAP2
      simp only [Option.isSome_none, Option.getD_none] at HAP2 HSB
      clear hR hk hk2
      have HSK : Hid (stpR [] (o.map (cAt l)) = false) := by
       have h := HSB.out
       have h2 := HS2.out
       rw [stb_bad3 h rfl] at h2
       simpa [Hid] using h2
      clear HS2 HSB
      go_wp2_with (first
       | (go_at_call 57; (with_reducible refine (HGT.out _ (hb1.out _)).mono ?_); rintro e w5 ⟨rfl, rfl⟩)
       | (go_at_call 58; (with_reducible refine (HAP2.out _).mono ?_); rintro e w6 ⟨rfl, hb6⟩; have HB6 := hid hb6; have hbk := (hb6.block wr.heap.size (by simp)).trans (heap_alloc_new wr _); have y2 := cell_of_row _ _ 2 _ _ _ hbk; have y5 := cell_of_row _ _ 5 _ _ _ hbk; have y6 := cell_of_row _ _ 6 _ _ _ hbk; have y7 := cell_of_row _ _ 7 _ _ _ hbk; have hz6 := hb6.size; simp only [World.size_alloc] at hz6; simp only [List.getElem?_toArray, List.getElem?_cons_zero, List.getElem?_cons_succ] at y2 y5 y6 y7; clear hb6 hbk))
      go_ret
      exact ⟨ret_bool HSK.out.symm, below_al HB.out HB6.out⟩
  ·have hke : k = o.length := by omega
   subst hke
   have HV : Hid (stpR [] (o.map (cAt l)) = true) := by rw [Hid, HST.out, List.drop_length]; rfl
   go_wp2
   go_ret
   exact ⟨ret_bool HV.out.symm, HB.out⟩
end Go.Proofs.YtabkmdhkfbcldaaGreat
