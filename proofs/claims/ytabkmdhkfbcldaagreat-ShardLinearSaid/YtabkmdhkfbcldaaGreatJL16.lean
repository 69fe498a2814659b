/-
 row: names whose puts did not end.
 row: what it tells of any name.
 What Find's loop over the names keeps.
 Find: an order in which the calls could have come.
 Which calls may be: the document's.
-/
import Derived.Test.YtabkmdhkfbcldaaGreatJL14
import Derived.Test.YtabkmdhkfbcldaaGreatJL15
import Derived.Test.YtabkmdhkfbcldaaGreatJL12
namespace Go.Proofs.YtabkmdhkfbcldaaGreat
open Go.RowKit
set_option maxRecDepth 20000 in
set_option maxHeartbeats 4000000 in
theorem row_f (l : List Cl) (p : Option Addr) (c : Nat) (key : ByteArray) (w : World) (hl : l.length ≤ 1000000) (hc : l.length ≤ c) (hrow : Row w p (l.flatMap Cl.cellsLn)) (hcase : (splitTo l key l.length).s = false ∧ (splitTo l key l.length).a.length ≠ 0) :
  Calls Tryz.prog 32 #[.slice p l.length c, .string key] w (RowTell l key w) := by
 have HSp := hid (split_any l p c key (w.alloc (.cells #[.slice p l.length c] 32)) hl hc (hrow.alloc _))
 have HR := hid hrow
 unfold SplitTell at HSp
 have hlen := split_len l key l.length
 have hlt := split_lt (l := l) (k := key) l.length
 have hall := split_all (l := l) (k := key)
 have HA := hid hall
 generalize hs : splitTo l key l.length = s at HSp hlen hlt HA hcase
 have HS := hid hs
 have HLT := hid hlt
 have HLEN := hid hlen
 have HCS := hid hcase
 clear hrow hs hall hlt hlen hcase
 go_enter Tryz.func32, Tryz.ntmps32
 go_wp2
 go_step3
 go_wp2_with (first
  | (go_at_call 50; (with_reducible refine HSp.out.mono ?_); rintro e w1 ⟨vb, va, vp, rfl, hob, hoa, hop, hba, hbp, hap, hb1⟩; rw [World.size_alloc] at hob hoa hop hb1; have HRW := hid (rw_start (l := l) (key := key) (p := p) (c := c) hob hoa hop hba hbp hap hb1); obtain ⟨pb, cb, rfl, -⟩ := own_shape hob; obtain ⟨pa, ca, rfl, -⟩ := own_shape hoa; obtain ⟨pp, cp, rfl, -⟩ := own_shape hop; have hz1 := hb1.size; simp only [World.size_alloc] at hz1; clear hob hoa hop hba hbp hap hb1))
 obtain ⟨W2, hW2⟩ : ∃ W2, W2 = w1.alloc (.cells #[.slice pb s.b.length cb, .slice pa s.a.length ca, .slice pp s.p.length cp, .bool s.s] 109) := ⟨_, rfl⟩
 rw [← hW2] at HRW
 have hz2 : W2.heap.size = w1.heap.size + 1 := by rw [hW2]; simp
 rw [← hW2]
 clear hW2
 (with_reducible refine (sorti_any HRW.out.ob (by have := HLEN.out; omega) HLT.out.1 (cell_of_row _ _ 0 _ _ _ HRW.out.box) (HR.out.below HRW.out.below) (RwI.bl_ne HRW.out.ob) (RwI.row_ne HR.out HLT.out.1 HRW.out.ob)).mono ?_)
 rintro e W3 ⟨rfl, sb, hpb, hfb, hob, hgb⟩
 have hlb := hpb.length_eq
 rw [← hlb] at hob hgb HRW ⊢
 have HRW3 := hid (HRW.out.sortB hgb hob)
 have HPB := hid (⟨hpb, hfb⟩ : sb.Perm s.b ∧ ByFr l sb)
 obtain ⟨x0, x1, x2, x3, -⟩ := blk_cells HRW3.out.blk
 clear hob hgb hpb hfb HRW hlb
 go_wp2_with fail
 (with_reducible refine (sorti_any HRW3.out.oa (by have := HLEN.out; omega) HLT.out.2.1 (cell_of_row _ _ 0 _ _ _ HRW3.out.box) (HR.out.below HRW3.out.below) (RwI.bl_ne HRW3.out.oa) (RwI.row_ne HR.out HLT.out.2.1 HRW3.out.oa)).mono ?_)
 rintro e W4 ⟨rfl, sa, hpa, hfa, hoa, hga⟩
 have hla := hpa.length_eq
 rw [← hla] at hoa hga HRW3 ⊢
 try rw [← hla] at HCS
 have HRW4 := hid (HRW3.out.sortA hga hoa)
 have HPA := hid (⟨hpa, hfa⟩ : sa.Perm s.a ∧ ByFr l sa)
 clear hoa hga hpa hfa HRW3 hla x0 x1 x2 x3
 have HP : Hid (Parts l key sb sa) := by
  have h1 := HPB.out
  have h2 := HPA.out
  rw [HA.out] at h1 h2
  exact ⟨h1.1, h2.1, h1.2, h2.2⟩
 obtain ⟨x0, x1, x2, x3, -⟩ := blk_cells HRW4.out.blk
 have y0 := cell_of_row _ _ 0 _ _ _ HRW4.out.box
 simp only [List.getElem?_toArray, List.getElem?_cons_zero] at y0
 have HL2 : Hid (sb.length ≤ 1000000 ∧ sa.length ≤ 1000000 ∧ s.p.length ≤ 1000000) := by
  have h1 := HPB.out.1.length_eq
  have h2 := HPA.out.1.length_eq
  have := HLEN.out
  exact ⟨by omega, by omega, by omega⟩
 have HLT2 : Hid ((∀ i ∈ sb, i < l.length) ∧ (∀ i ∈ sa, i < l.length) ∧ ∀ i ∈ s.p, i < l.length) :=
  ⟨fun i hi => HLT.out.1 i (HPB.out.1.mem_iff.1 hi), fun i hi => HLT.out.2.1 i (HPA.out.1.mem_iff.1 hi), HLT.out.2.2⟩
 clear HSp HA HLT HLEN HPB HPA
 generalize hps : s.p = sp at *
 generalize hsu : s.s = su at *
 have hz3 := HRW4.out.below.size
 clear hz1 hz2
 obtain ⟨rfl, hsa⟩ := HCS.out
 have HV : Hid (∀ r, rowC l sb sa sp false = r ↔ (match sp.find? (fitsC l sb sa) with | some p => some (sb ++ p :: sa) | none => none) = r) := by
  unfold Hid rowC; rw [if_neg (by simp [hsa]), if_neg (by simp)]; exact fun _ => Iff.rfl
 have hsa1 : ((sa.length : Int) == 0) = false := by simpa using (by omega : ¬ (sa.length : Int) = 0)
 have hsa2 : (sa.length == 0) = false := by simpa using hsa
 clear hsa
 go_wp2
 go_step3
 go_wp2
 have hspl := HL2.out.2.2
 have hsbl := HL2.out.1
 have hsal := HL2.out.2.1
 go_loopw [44] (RowRel l key w w1.heap.size p c (.slice pb sb.length cb) (.slice pa sa.length ca) (.slice pp sp.length cp) sb sa sp false) (fun i _ => sp.length - (intOf i).toNat)
 case atStart => exact ⟨0, Nat.zero_le _, rfl, fun j hj => by omega, HRW4.out⟩
 case round =>
  obtain ⟨k, hk, rfl, hno, hrw⟩ := hrel
  have HNO := hid hno
  have HQ := hid hrw
  clear hno hrw
  by_cases hlt : k < sp.length
  ·have hrp := own_slice_row HQ.out.op
   obtain ⟨b4, o4, rfl, hb4, -⟩ := hrp.at (by simpa using (show 0 < sp.length by omega))
   have cq := nat_at hrp k hlt
   have hql := getD_lt HLT2.out.2.2 hlt
   have HN1 := hid (fun h => noneTo_succ HNO.out (k := k) h)
   have HN2 := hid (fun h => find_at hlt HNO.out (k := k) h)
   generalize sp.getD k 0 = q at cq hql HN1 HN2
   have HF := hid (fits_any l p c sb sa pb pa (some ⟨b4, o4, none⟩) cb ca sp.length cp false q wr hl hql HLT2.out.1 HLT2.out.2.1 HL2.out.1 HL2.out.2.1 (HR.out.below HQ.out.below) (own_slice_row HQ.out.ob) (own_slice_row HQ.out.oa))
   obtain ⟨x0, x1, x2, x3, -⟩ := blk_cells HQ.out.blk
   have y0 := cell_of_row _ _ 0 _ _ _ HQ.out.box
   simp only [List.getElem?_toArray, List.getElem?_cons_zero] at y0
   clear hrp
   cases hf : fitsC l sb sa q with
   | false =>
    rw [hf] at HF
    have HN3 := hid (HN1.out hf)
    clear hf
    go_wp2_with (go_at_call 53; (with_reducible refine HF.out.mono ?_); rintro e w5 ⟨rfl, hb5⟩)
    exact ⟨⟨k + 1, by omega, by go_num, HN3.out, HQ.out.belowI hb5⟩, by simp [intOf]; omega⟩
   | true =>
    rw [hf] at HF
    have HN3 := hid (HN2.out hf)
    clear hf
    go_wp2_with (go_at_call 53; (with_reducible refine HF.out.mono ?_); rintro e w5 ⟨rfl, hb5⟩)
    have HQ5 := hid (HQ.out.belowI hb5)
    have hz5 := HQ5.out.below.size
    have hg1 := HQ5.out.ge
    have hg2 : w1.heap.size < w5.heap.size := (Array.getElem?_eq_some_iff.1 HQ5.out.blk).1
    have HBA := hid (fun o : Obj => (Below.heap_alloc w5 o w1.heap.size hg2).trans HQ5.out.blk)
    clear hb5 x0 x1 x2 x3 y0
    have x0 : ∀ w' : World, w'.heap[w1.heap.size]? = some (.cells #[.slice pb sb.length cb, .slice pa sa.length ca, .slice (some ⟨b4, o4, none⟩) sp.length cp, .bool false] 109 (0, 0)) → w'.cell? ⟨w1.heap.size, 0, none⟩ = some (.slice pb sb.length cb) := fun w' h => (blk_cells h).1
    have x1 : ∀ w' : World, w'.heap[w1.heap.size]? = some (.cells #[.slice pb sb.length cb, .slice pa sa.length ca, .slice (some ⟨b4, o4, none⟩) sp.length cp, .bool false] 109 (0, 0)) → w'.cell? ⟨w1.heap.size, 1, none⟩ = some (.slice pa sa.length ca) := fun w' h => (blk_cells h).2.1
    go_upto_region 13 with (fail)
    refine wp_region_held_drew (S := fun w' : World => w'.heap[w1.heap.size]? = some (.cells #[.slice pb sb.length cb, .slice pa sa.length ca, .slice (some ⟨b4, o4, none⟩) sp.length cp, .bool false] 109 (0, 0))) (by kernel_rfl) HQ5.out.blk (fun hHeld => ?_)
    refine wpAnyH_take (i := 0) (oi := { dst := some 53, op := Op.fieldAddr 109 (Operand.tmp 6) 0, type := 0, pos := "linear.go:206", after := #[], guard := none }) (v := ?rgv0) rfl (by kernel_rfl) (by kernel_rfl) (by kernel_rfl) (fun _ _ _ h => h) (Or.inl ⟨by rfl, ?rgh0⟩) (by assumption) ?rgr0
    case rgh0 => ((intro w hSw; (try dsimp only at hSw); go_simp); try with_reducible rfl)
    try simp only [Act.put, List.setIfInBounds_toArray, List.set_cons_zero, List.set_cons_succ]
    refine wpAnyH_take (i := 1) (oi := { dst := some 54, op := Op.load 40 (Operand.tmp 53), type := 40, pos := "linear.go:206", after := #[{ on := 0, ground := Ground.data }], guard := none }) (v := ?rgv1) rfl (by kernel_rfl) (by kernel_rfl) (by kernel_rfl) (fun _ _ _ h => h) (Or.inl ⟨by rfl, ?rgh1⟩) (by assumption) ?rgr1
    case rgh1 => ((intro w hSw; (try dsimp only at hSw); go_simp); try with_reducible rfl)
    try simp only [Act.put, List.setIfInBounds_toArray, List.set_cons_zero, List.set_cons_succ]
    refine wpAnyH_take (i := 2) (oi := { dst := some 55, op := Op.move (Operand.tmp 9), type := 3, pos := "linear.go:206", after := #[], guard := none }) (v := ?rgv2) rfl (by kernel_rfl) (by kernel_rfl) (by kernel_rfl) (fun _ _ _ h => h) (Or.inl ⟨by rfl, ?rgh2⟩) (by assumption) ?rgr2
    case rgh2 => ((intro w hSw; (try dsimp only at hSw); go_simp); try with_reducible rfl)
    try simp only [Act.put, List.setIfInBounds_toArray, List.set_cons_zero, List.set_cons_succ]
    refine wpAnyH_take (i := 5) (oi := { dst := some 58, op := Op.fieldAddr 109 (Operand.tmp 6) 1, type := 0, pos := "linear.go:206", after := #[], guard := none }) (v := ?rgv5) rfl (by kernel_rfl) (by kernel_rfl) (by kernel_rfl) (fun _ _ _ h => h) (Or.inl ⟨by rfl, ?rgh5⟩) (by assumption) ?rgr5
    case rgh5 => ((intro w hSw; (try dsimp only at hSw); go_simp); try with_reducible rfl)
    try simp only [Act.put, List.setIfInBounds_toArray, List.set_cons_zero, List.set_cons_succ]
    refine wpAnyH_take (i := 6) (oi := { dst := some 59, op := Op.load 40 (Operand.tmp 58), type := 40, pos := "linear.go:206", after := #[{ on := 5, ground := Ground.data }], guard := none }) (v := ?rgv6) rfl (by kernel_rfl) (by kernel_rfl) (by kernel_rfl) (fun _ _ _ h => h) (Or.inl ⟨by rfl, ?rgh6⟩) (by assumption) ?rgr6
    case rgh6 => ((intro w hSw; (try dsimp only at hSw); go_simp); try with_reducible rfl)
    try simp only [Act.put, List.setIfInBounds_toArray, List.set_cons_zero, List.set_cons_succ]
    refine wpAnyH_ready (rs := [3]) (by kernel_rfl) (by simp) ?_
    refine AllReadyH.cons (o := { dst := some 56, op := Op.buildSlice 40 1 #[(0, Operand.tmp 55)], type := 40, pos := "linear.go:206", after := #[{ on := 2, ground := Ground.data }], guard := none }) rfl (fun K hK => ?_) AllReadyH.nil
    go_simp; refine hK.out _ _ (HBA.out _) (fun hHeld => ?_)
    clear hK K
    try simp only [Act.put, List.setIfInBounds_toArray, List.set_cons_zero, List.set_cons_succ]
    refine wpAnyH_ready (rs := [4]) (by kernel_rfl) (by simp) ?_
    refine AllReadyH.cons (o := { dst := some 57, op := Op.call { callee := Callee.builtin Builtin.append, args := #[Operand.tmp 54, Operand.tmp 56], argTypes := #[40, 40] }, type := 40, pos := "linear.go:206", after := #[{ on := 1, ground := Ground.data }, { on := 3, ground := Ground.data }], guard := none }) rfl (fun K hK => ?_) AllReadyH.nil
    (refine step_app EInt rfl (.tmp 54) (.tmp 56) rfl (w.heap.size + 1) _ _ (sb.map natVLn) rfl (HQ5.out.ob.alloc _) _ 1 1 [natVLn q] rfl rfl (row_newAt _ _ _ _ (by simp)) (by simp [natVLn, Value.oneCell']) (by unfold maxLen; omega) (by omega) (by simp; omega) ?_); intro v4 w4 ho4 hg4 hs4; obtain ⟨p4, c4, rfl, -⟩ := own_shape ho4; have HO4 := hid ho4; have HB4 := hid (RwI.appB HQ5.out ((Below.refl _ _).alloc (Nat.le_refl _) _).drew hg4 hs4); clear ho4 hg4 hs4; refine hK.out _ _ HB4.out.1 (fun hHeld => ?_)
    clear hK K
    try simp only [Act.put, List.setIfInBounds_toArray, List.set_cons_zero, List.set_cons_succ]
    refine wpAnyH_ready (rs := [7]) (by kernel_rfl) (by simp) ?_
    refine AllReadyH.cons (o := { dst := some 60, op := Op.call { callee := Callee.builtin Builtin.append, args := #[Operand.tmp 57, Operand.tmp 59], argTypes := #[40, 40] }, type := 40, pos := "linear.go:206", after := #[{ on := 4, ground := Ground.data }, { on := 6, ground := Ground.data }, { on := 4, ground := Ground.chain }], guard := none }) rfl (fun K hK => ?_) AllReadyH.nil
    (refine step_appO EInt rfl (.tmp 57) (.tmp 59) rfl (w.heap.size + 1) _ _ (sb.map natVLn ++ [natVLn q]) rfl HO4.out _ sa.length ca (sa.map natVLn) rfl (by simp) (own_nilcap HQ5.out.oa) HB4.out.2.2.2.1 nat_ones (by unfold maxLen; omega) (by omega) HB4.out.2.2.1 ?_); intro v6 w6 ho6 hg6 hs6; obtain ⟨p6, c6, rfl, -⟩ := own_shape ho6; have HO6 := hid ho6; have HB6 := hid (HB4.out.2.1.grown hg6 (by have := HB4.out.2.2.1; omega) (fun k e => by have := own_ge HO4.out _ e; omega)); have HS6 := hid ((hg6.block _ (Array.getElem?_eq_some_iff.1 HB4.out.1).1 (fun e => HB4.out.2.2.2.2 e.symm)).trans HB4.out.1); clear ho6 hg6 hs6; refine hK.out _ _ HS6.out (fun hHeld => ?_)
    clear hK K
    try simp only [Act.put, List.setIfInBounds_toArray, List.set_cons_zero, List.set_cons_succ]
    refine wpAnyH_take (i := 8) (oi := { dst := some 4, op := Op.assign (Operand.tmp 60), type := 40, pos := "linear.go:206", after := #[{ on := 7, ground := Ground.data }, { on := 7, ground := Ground.chain }, { on := 0, ground := Ground.phase }, { on := 1, ground := Ground.phase }, { on := 2, ground := Ground.phase }, { on := 3, ground := Ground.phase }, { on := 4, ground := Ground.phase }, { on := 5, ground := Ground.phase }, { on := 6, ground := Ground.phase }, { on := 7, ground := Ground.phase }], guard := none }) (v := ?rgv8) rfl (by kernel_rfl) (by kernel_rfl) (by kernel_rfl) (fun _ _ _ h => h) (Or.inl ⟨by rfl, ?rgh8⟩) (by assumption) ?rgr8
    case rgh8 => ((intro w hSw; (try dsimp only at hSw); go_simp); try with_reducible rfl)
    try simp only [Act.put, List.setIfInBounds_toArray, List.set_cons_zero, List.set_cons_succ]
    refine wpAnyH_take (i := 9) (oi := { dst := some 5, op := Op.assign (Operand.const (Value.bool true)), type := 4, pos := "linear.go:206", after := #[{ on := 8, ground := Ground.chain }, { on := 0, ground := Ground.phase }, { on := 1, ground := Ground.phase }, { on := 2, ground := Ground.phase }, { on := 3, ground := Ground.phase }, { on := 4, ground := Ground.phase }, { on := 5, ground := Ground.phase }, { on := 6, ground := Ground.phase }, { on := 7, ground := Ground.phase }, { on := 8, ground := Ground.phase }], guard := none }) (v := ?rgv9) rfl (by kernel_rfl) (by kernel_rfl) (by kernel_rfl) (fun _ _ _ h => h) (Or.inl ⟨by rfl, ?rgh9⟩) (by assumption) ?rgr9
    case rgh9 => ((intro w hSw; (try dsimp only at hSw); go_simp); try with_reducible rfl)
    try simp only [Act.put, List.setIfInBounds_toArray, List.set_cons_zero, List.set_cons_succ]
    refine wpAnyH_done (by kernel_rfl) ?_ _
    go_wp2_with fail
    rw [Exit.noGoto_ret]
    go_ret2
    refine ⟨sb, sa, HP.out, HB6.out, .inl ⟨sb ++ q :: sa, _, ?_, rfl, ?_⟩⟩
    ·rw [HS.out, hps, hsu]
     refine (HV.out _).2 ?_
     rw [HN3.out]
    ·exact own_lower (own_cast HO6.out (by simp; omega) (by simp)) (by omega)
  ·have hke : k = sp.length := by omega
   subst hke
   have hv := find_none HNO.out
   have HV2 : Hid (rowC l sb sa sp false = none) := (HV.out _).2 (by rw [hv])
   clear hv
   go_wp2
   rw [Exit.noGoto_ret]
   go_ret2
   refine ⟨sb, sa, HP.out, HQ.out.below, .inr ⟨?_, rfl⟩⟩
   rw [HS.out, hps, hsu]; exact HV2.out
end Go.Proofs.YtabkmdhkfbcldaaGreat
namespace Go.Proofs.YtabkmdhkfbcldaaGreat
open Go.RowKit
theorem row_any (l : List Cl) (p : Option Addr) (c : Nat) (key : ByteArray) (w : World) (hl : l.length ≤ 1000000) (hc : l.length ≤ c) (hrow : Row w p (l.flatMap Cl.cellsLn)) :
  Calls Tryz.prog 32 #[.slice p l.length c, .string key] w (RowTell l key w) := by
 by_cases h1 : (splitTo l key l.length).s = true
 ·by_cases h2 : (splitTo l key l.length).p.length = 1
  ·exact row_t l p c key w hl hc hrow ⟨h1, h2⟩
  ·exact row_n l p c key w hl hc hrow (.inr ⟨h1, h2⟩)
 ·have h1 : (splitTo l key l.length).s = false := by simpa using h1
  by_cases h2 : (splitTo l key l.length).a.length = 0
  ·exact row_n l p c key w hl hc hrow (.inl ⟨h1, h2⟩)
  ·exact row_f l p c key w hl hc hrow ⟨h1, h2⟩
end Go.Proofs.YtabkmdhkfbcldaaGreat
namespace Go.Proofs.YtabkmdhkfbcldaaGreat
open Go.RowKit
theorem own_keptB {W W' : World} {row : Option Nat} {base : Nat} {e : TypeId} {size : Nat} {v : Value} {k : Nat} {xs : List Value} (h : W.ownsRow base e size v k xs) (hg : W.grownBy W' row)
  (hrow : ∀ r, row = some r → ∃ o : Obj, W.heap[r]? = some o ∧ o.isCells = false) : W'.ownsRow base e size v k xs := by
 refine h.kept hg ?_
 rcases h.2 with ⟨rfl, _⟩ | ⟨g, cap, cur, rfl, _, hgb, _⟩
 ·exact .inl rfl
 ·refine .inr fun e' => ?_
  obtain ⟨o, ho, hw⟩ := hrow g (by simpa [Value.ownBlock] using e'.symm)
  rw [hgb] at ho; cases ho; cases hw
theorem own_type {W : World} {base : Nat} {e : TypeId} {size : Nat} {v : Value} {k : Nat} {xs : List Value} (h : W.ownsRow base e size v k xs) (g : Nat) (hg : v.ownBlock = some g) : ∃ cur, W.heap[g]? = some (.cells cur e (0, 0)) := by
 rcases h.2 with ⟨rfl, _⟩ | ⟨g', cap, cur, rfl, _, hgb, _⟩
 ·cases hg
 ·cases hg; exact ⟨cur, hgb⟩
theorem heap_keptP {W W' : World} {row : Option Nat} {k : Nat} {o : Obj} (hg : W.grownBy W' row) (hr : some k ≠ row) (h : W.heap[k]? = some o) : W'.heap[k]? = some o :=
 (hg.block k (Array.getElem?_eq_some_iff.1 h).1 hr).trans h
theorem Row.keptB {W W' : World} {p : Option Addr} {cs : List Value} {row : Option Nat} (h : Row W p cs) (hg : W.grownBy W' row) (hrow : ∀ r, row = some r → ∃ o : Obj, W.heap[r]? = some o ∧ o.isCells = false) : Row W' p cs := by
 intro hcs
 obtain ⟨b, f, hp, hc⟩ := h hcs
 exact ⟨b, f, hp, fun i hi => cell_kept (hc i hi) hg hrow⟩
theorem own_lt_ge {W : World} {base : Nat} {e : TypeId} {size : Nat} {q : Option Addr} {m d n : Nat} {xs : List Value} (h : W.ownsRow base e size (.slice q m d) n xs) (a : Addr) (ha : q = some a) : base ≤ a.block ∧ a.block < W.heap.size := by
 subst ha
 rcases h.2 with ⟨e1, _⟩ | ⟨g, cap, cur, e1, hge, hgb, _⟩
 ·cases e1
 ·cases e1; exact ⟨hge, (Array.getElem?_eq_some_iff.1 hgb).1⟩
theorem RowsAt.mono {OK OK' : Option Addr → Prop} {w w' : World} {vals : List Value} {rows : List (List Nat)} (h : RowsAt OK w vals rows) (h1 : ∀ q cs, Row w q cs → Row w' q cs) (h2 : ∀ q, OK q → OK' q) : RowsAt OK' w' vals rows :=
 ⟨h.len, fun j hj => by obtain ⟨p, c, a1, a2, a3, a4, a5⟩ := h.each j hj; exact ⟨p, c, a1, a2, a3, h1 _ _ a4, h2 _ a5⟩⟩
theorem RowsAt.snoc {OK : Option Addr → Prop} {w : World} {vals : List Value} {rows : List (List Nat)} {r : List Nat} {q : Option Addr} {c : Nat} (h : RowsAt OK w vals rows) (h1 : r.length ≤ c) (h2 : q = none → c = 0) (h3 : Row w q (r.map natVLn)) (h4 : OK q) : RowsAt OK w (vals ++ [.slice q r.length c]) (rows ++ [r]) := by
 refine ⟨by simp [h.len], fun j hj => ?_⟩
 by_cases e : j < rows.length
 ·obtain ⟨p, c', a1, a2, a3, a4, a5⟩ := h.each j e
  have hget : (rows ++ [r])[j] = rows[j] := List.getElem_append_left e
  rw [hget]
  exact ⟨p, c', by rw [List.getElem?_append_left (by rw [h.len]; exact e)]; exact a1, a2, a3, a4, a5⟩
 ·have hj' : j = rows.length := by simp at hj; omega
  subst hj'
  have hget : (rows ++ [r])[rows.length] = r := by simp
  rw [hget]
  exact ⟨q, c, by rw [← h.len]; simp, h1, h2, h3, h4⟩
structure FdI (l : List Cl) (p : Option Addr) (c r6 : Nat) (w : World) (pre : List ByteArray) (vo : Value) (vals : List Value) (rows : List (List Nat)) (W : World) : Prop where
 box : W.heap[w.heap.size]? = some (.cells #[.slice p l.length c] 32 (0, 0))
 r1 : W.heap[w.heap.size + 1]? = some (.cells #[.slice none 0 0] 40 (0, 0))
 r2 : W.heap[w.heap.size + 2]? = some (.cells #[.bool false] 4 (0, 0))
 r3 : W.heap[w.heap.size + 3]? = some (.cells #[.int .i64 0] 27 (0, 0))
 rb : W.heap[r6]? = some (.cells #[vo] 80 (0, 0))
 own : W.ownsRow (w.heap.size + 4) 40 1 vo pre.length vals
 ins : RowsAt (InOk W.heap.size vo) W vals rows
 len : rows.length = pre.length
 ok : ∀ j (h : j < pre.length), RowOk l pre[j] (rows.getD j [])
 below : Below w.heap.size w W
variable {l : List Cl} {p : Option Addr} {c r6 : Nat} {w W W' : World} {pre : List ByteArray} {vo : Value} {vals : List Value} {rows : List (List Nat)}
theorem InOk.mono {n n' : Nat} {vo : Value} (hn : n ≤ n') : ∀ q, InOk n vo q → InOk n' vo q := fun q h a ha => ⟨Nat.lt_of_lt_of_le (h a ha).1 hn, (h a ha).2⟩
theorem FdI.kept {B : Nat} (h : FdI l p c r6 w pre vo vals rows W) (hB : w.heap.size + 4 ≤ B) (h6 : r6 < B) {row : Option Nat} (hg : W.grownBy W' row) (hr : ∀ r, row = some r → B ≤ r ∧ ∃ o : Obj, W.heap[r]? = some o ∧ o.isCells = false) : FdI l p c r6 w pre vo vals rows W' := by
 have hk : ∀ {k : Nat} {o : Obj}, k < B → W.heap[k]? = some o → W'.heap[k]? = some o := fun hk h => heap_keptP hg (fun e => by have := (hr _ e.symm).1; omega) h
 exact ⟨hk (by omega) h.box, hk (by omega) h.r1, hk (by omega) h.r2, hk (by omega) h.r3, hk h6 h.rb, own_keptB h.own hg (fun r e => (hr r e).2),
  h.ins.mono (fun q cs hq => hq.keptB hg (fun r e => (hr r e).2)) (InOk.mono hg.size), h.len, h.ok, h.below.grown hg h.below.size (fun k e => by have := (hr k e).1; omega)⟩
theorem FdI.belowI (h : FdI l p c r6 w pre vo vals rows W) (hb : Below W.heap.size W W') : FdI l p c r6 w pre vo vals rows W' := by
 have hk : ∀ {k : Nat} {o : Obj}, W.heap[k]? = some o → W'.heap[k]? = some o := fun h => (hb.block _ (Array.getElem?_eq_some_iff.1 h).1).trans h
 exact ⟨hk h.box, hk h.r1, hk h.r2, hk h.r3, hk h.rb, own_below h.own hb, h.ins.mono (fun q cs hq => hq.below hb) (InOk.mono hb.size), h.len, h.ok, h.below.trans (hb.mono h.below.size)⟩
theorem FdI.push (h : FdI l p c r6 w pre vo vals rows W) (h6 : w.heap.size + 4 ≤ r6) {k : ByteArray} {r : List Nat} {q : Option Addr} {d : Nat} {W5 w7 : World} {o1 : Obj} {v7 : Value} (hb : Below W.heap.size W W5) (ho : OwnI W5 W.heap.size (.slice q r.length d) r) (hok : RowOk l k r)
  (hg : (W5.alloc o1).grownBy w7 vo.ownBlock) (hs : Stayed (W5.alloc o1) vo v7) (ho7 : w7.ownsRow (w.heap.size + 4) 40 1 v7 (pre.length + 1) (vals ++ [.slice q r.length d])) : FdI l p c r6 w (pre ++ [k]) v7 (vals ++ [.slice q r.length d]) (rows ++ [r]) (w7.setCell ⟨r6, 0, none⟩ v7) := by
 have h5 := h.belowI hb
 have h5a := h5.belowI ((Below.refl W5.heap.size W5).alloc (Nat.le_refl _) o1)
 have hoa : OwnI (W5.alloc o1) W.heap.size (.slice q r.length d) r := ho.alloc _
 have hvlt : ∀ g, vo.ownBlock = some g → g < W.heap.size := own_lt h.own
 have hvge : ∀ g, vo.ownBlock = some g → w.heap.size + 4 ≤ g := own_ge h.own
 have hty : ∀ g, vo.ownBlock = some g → ∃ cur, (W5.alloc o1).heap[g]? = some (.cells cur 40 (0, 0)) := own_type h5a.own
 have h7ty := own_type ho7
 have hlow : ∀ {k : Nat} {o : Obj}, k < w.heap.size + 4 → (W5.alloc o1).heap[k]? = some o → w7.heap[k]? = some o := fun hk h => heap_keptP hg (fun e => by have := hvge _ e.symm; omega) h
 have hrb : w7.heap[r6]? = some (.cells #[vo] 80 (0, 0)) := heap_keptP hg (fun e => by
  obtain ⟨cur, hc⟩ := hty _ e.symm
  rw [h5a.rb] at hc; cases hc) h5a.rb
 have hset : ∀ {k : Nat} {o : Obj}, k < w.heap.size + 4 → (W5.alloc o1).heap[k]? = some o → (w7.setCell ⟨r6, 0, none⟩ v7).heap[k]? = some o := fun hk h => (Below.heap_setCell _ _ _ _ (by simp; omega)).trans (hlow hk h)
 have hz7 := hg.size
 have hz5 := hb.size
 simp only [World.size_alloc] at hz7
 have hv7 : ∀ g, v7.ownBlock = some g → vo.ownBlock = some g ∨ W5.heap.size + 1 ≤ g := fun g e => by simpa using hs g e
 have hnr6 : ∀ g, v7.ownBlock = some g → g ≠ r6 := fun g e e2 => by
  subst e2
  obtain ⟨cur, hc⟩ := h7ty _ e
  rw [hrb] at hc; cases hc
 -- a row that lay at W5 lies on
 have hrow : ∀ (q : Option Addr) (zs : List Nat), Row (W5.alloc o1) q (zs.map natVLn) → (∀ a, q = some a → vo.ownBlock ≠ some a.block) → Row (w7.setCell ⟨r6, 0, none⟩ v7) q (zs.map natVLn) := fun q zs hq hne => by
  have h1 := hq.kept hg (fun a ha e => hne a ha e.symm)
  intro hcs
  obtain ⟨b, f, rfl, hc⟩ := h1 hcs
  refine ⟨b, f, rfl, fun i hi => ?_⟩
  rw [World.cell?_setCell_other]
  ·exact hc i hi
  ·intro e
   have e : b = r6 := (congrArg Addr.block e).symm
   have := hc i hi
   rw [e] at this
   have h8 := cell_of_row w7 r6 (f + i) _ _ _ hrb
   rw [h8] at this
   cases hfi : f + i with
   | zero =>
    rw [hfi] at this
    simp [natVLn] at this
    obtain ⟨pv, cv, hv, _⟩ := own_shape h.own
    rw [hv] at this; cases this
   | succ n => rw [hfi] at this; simp at this
 have hins : RowsAt (InOk w7.heap.size v7) (w7.setCell ⟨r6, 0, none⟩ v7) vals rows := ⟨h5a.ins.len, fun j hj => by
  obtain ⟨p', c', a1, a2, a3, a4, a5⟩ := h5a.ins.each j hj
  refine ⟨p', c', a1, a2, a3, hrow _ _ a4 (fun a ha => (a5 a ha).2), fun a ha => ?_⟩
  obtain ⟨b1, b2⟩ := a5 a ha
  simp only [World.size_alloc] at b1
  refine ⟨by omega, fun e => ?_⟩
  rcases hv7 _ e with e2 | e2
  ·exact b2 e2
  ·obtain ⟨p0, c0, f1, _, _, _, f5⟩ := h5.ins.each j hj
   rw [a1] at f1
   injection f1 with f1; injection f1 with f1 _ _
   subst f1
   have := (f5 a ha).1
   omega⟩
 obtain ⟨q', d', e1, hrd, hdm, _, hqn, _⟩ := own_row hoa
 cases e1
 have hq1 : ∀ a, q = some a → W.heap.size ≤ a.block ∧ a.block < W5.heap.size := fun a ha => own_lt_ge ho a ha
 refine ⟨hset (by omega) h5a.box, hset (by omega) h5a.r1, hset (by omega) h5a.r2, hset (by omega) h5a.r3, heap_setCell_same _ _ 0 _ _ _ hrb, ?_, ?_, by simp [h.len], fun j hj => ?_, ?_⟩
 ·exact own_cast (own_setO ho7 _ _ hnr6) (by simp) rfl
 ·refine RowsAt.snoc (by simpa using hins) hrd (own_nilcap hoa) (hrow _ _ (own_slice_row hoa) (fun a ha e => ?_)) (fun a ha => ⟨?_, fun e => ?_⟩)
  ·have h1 := hvlt _ e
   have h2 := (hq1 a ha).1
   omega
  ·have h2 := (hq1 a ha).2
   simp; omega
  ·have h2 := hq1 a ha
   rcases hv7 _ e with e2 | e2
   ·have := hvlt _ e2; omega
   ·omega
 ·by_cases e : j < pre.length
  ·have hget : (pre ++ [k])[j] = pre[j] := List.getElem_append_left e
   rw [hget]
   have := h.ok j e
   rwa [List.getD_eq_getElem?_getD, List.getElem?_append_left (by rw [h.len]; exact e), ← List.getD_eq_getElem?_getD]
  ·have hj' : j = pre.length := by simp at hj; omega
   subst hj'
   have hget : (pre ++ [k])[pre.length] = k := by simp
   rw [hget, List.getD_eq_getElem?_getD, ← h.len]
   simpa using hok
 ·exact ((h5a.below.grown hg h5a.below.size (fun g e => by have := hvge g e; omega)).setCell (by simp; omega) _)
end Go.Proofs.YtabkmdhkfbcldaaGreat
namespace Go.Proofs.YtabkmdhkfbcldaaGreat
open Go.RowKit
attribute [local go_sem] Oper.semAt_some
attribute [local go_sem] wide_fn wide_depth
def FindTell (l : List Cl) (w : World) (e : Ending) (w' : World) : Prop :=
 ∃ (v : Value) (o : List Nat) (is : Bool), e = .returned (.tuple #[v, .bool is, .int .i64 (chkL l)]) ∧ FindIs l o is (chkL l) ∧ OwnI w' w.heap.size v o ∧ Below w.heap.size w w'
theorem find_no {l : List Cl} (h : chkL l ≠ 0) : FindIs l [] false (chkL l) := ⟨rfl, fun _ => rfl, fun e => absurd e h, fun e => (by cases e), fun _ => rfl⟩
theorem find_non {l : List Cl} (h : ¬ Lin l) : FindIs l [] false (chkL l) := ⟨rfl, fun _ => rfl, fun _ => ⟨fun e => (by cases e), fun e => absurd e h⟩, fun e => (by cases e), fun _ => rfl⟩
theorem find_is {l : List Cl} {o : List Nat} (hz : chkL l = 0) (h : Legal l o) : FindIs l o true (chkL l) := ⟨rfl, fun e => absurd hz e, fun _ => ⟨fun _ => ⟨o, h⟩, fun _ => rfl⟩, fun _ => h, fun e => (by cases e)⟩
theorem kpt_below {n₀ : Nat} {S : TypeId → Bool} {W W' : World} (hn : n₀ ≤ W.heap.size) (hb : Below W.heap.size W W') : KpT n₀ S W W' := ⟨hb.mono hn, hb.size, fun _ _ _ _ _ hk => (hb.block _ (Array.getElem?_eq_some_iff.1 hk).1).trans hk⟩
theorem keeps_below {n : Nat} {W W' : World} (hb : Below W.heap.size W W') : KeepsFrom n W W' := ⟨hb.size, fun _ _ _ hk _ => (hb.block _ (Array.getElem?_eq_some_iff.1 hk).1).trans hk⟩
theorem own_nil0 (w : World) (base : Nat) : OwnI w base (.slice none 0 0) [] := ⟨rfl, .inl ⟨rfl, rfl⟩⟩
theorem fd_start (l : List Cl) (p : Option Addr) (c : Nat) (w : World) : ∃ W, W = (((w.alloc (.cells #[.slice p l.length c] 32)).alloc (.cells #[.slice none 0 0] 40)).alloc (.cells #[.bool false] 4)).alloc (.cells #[.int .i64 0] 27) ∧
  W.heap[w.heap.size]? = some (.cells #[.slice p l.length c] 32 (0, 0)) ∧ W.heap[w.heap.size + 1]? = some (.cells #[.slice none 0 0] 40 (0, 0)) ∧ W.heap[w.heap.size + 2]? = some (.cells #[.bool false] 4 (0, 0)) ∧ W.heap[w.heap.size + 3]? = some (.cells #[.int .i64 0] 27 (0, 0)) ∧ W.heap.size = w.heap.size + 4 ∧ Below w.heap.size w W := by
 refine ⟨_, rfl, ?_, ?_, ?_, ?_, by simp, (((((Below.refl _ w).alloc (Nat.le_refl _) _).alloc (by simp) _).alloc (by simp <;> omega) _).alloc (by simp <;> omega) _)⟩
 ·exact (Below.heap_alloc _ _ _ (by simp <;> omega)).trans ((Below.heap_alloc _ _ _ (by simp <;> omega)).trans ((Below.heap_alloc _ _ _ (by simp)).trans (heap_alloc_new w _)))
 ·have := heap_alloc_new (w.alloc (.cells #[.slice p l.length c] 32)) (.cells #[.slice none 0 0] 40)
  rw [World.size_alloc] at this
  exact (Below.heap_alloc _ _ _ (by simp <;> omega)).trans ((Below.heap_alloc _ _ _ (by simp)).trans this)
 ·have := heap_alloc_new ((w.alloc (.cells #[.slice p l.length c] 32)).alloc (.cells #[.slice none 0 0] 40)) (.cells #[.bool false] 4)
  rw [World.size_alloc, World.size_alloc] at this
  exact (Below.heap_alloc _ _ _ (by simp)).trans this
 ·have := heap_alloc_new (((w.alloc (.cells #[.slice p l.length c] 32)).alloc (.cells #[.slice none 0 0] 40)).alloc (.cells #[.bool false] 4)) (.cells #[.int .i64 0] 27)
  rwa [World.size_alloc, World.size_alloc, World.size_alloc] at this
set_option maxRecDepth 20000 in
set_option maxHeartbeats 4000000 in
theorem find_bad (l : List Cl) (p : Option Addr) (c : Nat) (w : World) (hl : l.length ≤ 1000000) (hc : l.length ≤ c) (hrow : Row w p (l.flatMap Cl.cellsLn)) (hz : chkL l ≠ 0) :
  Calls Tryz.prog 13 #[.slice p l.length c] w (FindTell l w) := by
 obtain ⟨W0, hW0, g0, g1, g2, g3, hs0, hb0⟩ := fd_start l p c w
 have HC := hid (check_anyLn l p c W0 hl hc (hrow.below hb0))
 unfold ChkTell at HC
 have HN := hid (find_no hz)
 have HW := hid hW0
 have hz1 : (chkL l != 0) = true := by simpa using hz
 have hz2 : (chkL l == 0) = false := by simpa using hz
 have HG := hid (⟨g1, g2, g3⟩ : _ ∧ _ ∧ _)
 have y0 := cell_of_row _ _ 0 _ _ _ g0
 simp only [List.getElem?_toArray, List.getElem?_cons_zero] at y0
 have HB0 := hid hb0
 clear hrow hz hW0 g0 g1 g2 g3 hb0
 generalize hch : chkL l = ch at *
 have HCH := hid hch
 clear hch
 go_enter Tryz.func13, Tryz.ntmps13
 go_upto_region 1 with (fail)
 rw [← HW.out]
 go_wp2_with (go_at_call 30; (with_reducible refine HC.out.mono ?_); rintro e w1 ⟨rfl, hb1⟩; have HB1 := hid hb1; have h1 := (hb1.block _ (by omega : w.heap.size + 1 < W0.heap.size)).trans HG.out.1; have h2 := (hb1.block _ (by omega : w.heap.size + 2 < W0.heap.size)).trans HG.out.2.1; have h3 := (hb1.block _ (by omega : w.heap.size + 3 < W0.heap.size)).trans HG.out.2.2; have c1 := cell_of_row _ _ 0 _ _ _ h1; have c2 := cell_of_row _ _ 0 _ _ _ h2; have c3 := cell_of_row _ _ 0 _ _ _ h3; have f1 : w1.frozen? ⟨w.heap.size + 1, 0, none⟩ = false := frozen_of_row _ _ _ _ _ h1; have f2 : w1.frozen? ⟨w.heap.size + 2, 0, none⟩ = false := frozen_of_row _ _ _ _ _ h2; have f3 : w1.frozen? ⟨w.heap.size + 3, 0, none⟩ = false := frozen_of_row _ _ _ _ _ h3; simp only [List.getElem?_toArray, List.getElem?_cons_zero] at c1 c2 c3; clear hb1 h1 h2 h3)
 refine bodyPost_ret (v := .tuple #[.slice none 0 0, .bool false, .int .i64 ch]) (by simp [results, Tryz.results13, go_sem, c1, c2, c3, f1, f2, f3]) rfl ?_
 unfold FindTell
 rw [HCH.out]
 exact ⟨_, [], false, rfl, HN.out, own_nil0 _ _, (((HB0.out.trans (HB1.out.mono (by omega))).setCell (by simp) _).setCell (by simp <;> omega) _).setCell (by simp <;> omega) _⟩
theorem find_fin {l : List Cl} {rows : List (List Nat)} (ho : HistOk l) (hm : ∀ i, i < l.length → (cAt l i).to ≤ maxI) (hlen : rows.length = (keysF l).length) (hr : ∀ j (h : j < (keysF l).length), RowOk l (keysF l)[j] (rows.getD j [])) :
  (∀ r ∈ rows, RowG l r) ∧ (∀ i ∈ rows.flatten, i < l.length) ∧ Legal l (mergeN l rows.flatten.length rows) ∧ rows.flatten.length ≤ l.length := by
 have hk : ∀ r ∈ rows, ∃ k, RowOk l k r := fun r hrm => by
  obtain ⟨j, hj, rfl⟩ := List.getElem_of_mem hrm
  have := hr j (by omega)
  rw [List.getD_eq_getElem?_getD, List.getElem?_eq_getElem hj] at this
  exact ⟨_, this⟩
 have h1 : ∀ r ∈ rows, RowG l r := fun r hrm => by obtain ⟨k, h⟩ := hk r hrm; exact h.g
 have h2 : ∀ i ∈ rows.flatten, i < l.length := fun i hi => by
  obtain ⟨r, hrm, hir⟩ := List.mem_flatten.1 hi
  obtain ⟨k, h⟩ := hk r hrm
  exact (h.lt i hir).1
 have h3 := find_yes ho hm hlen hr rows.flatten.length (Nat.le_refl _)
 refine ⟨h1, h2, h3, ?_⟩
 have h4 := (merge_ok l rows.flatten.length rows (Nat.le_refl _) h1 (fun i hi => ho.at i (h2 i hi)) (fun i hi => hm i (h2 i hi))).1.length_eq
 have h5 := legal_len h3
 omega
theorem keysF_len (l : List Cl) : (keysF l).length ≤ l.length := by
 have h : ∀ (l : List Cl) (acc : List ByteArray), (l.foldl keyStep acc).length ≤ acc.length + l.length := by
  intro l
  induction l with
  | nil => intro acc; simp
  | cons c l ih =>
   intro acc
   have h1 := ih (keyStep acc c)
   have h2 : (keyStep acc c).length ≤ acc.length + 1 := by unfold keyStep; split <;> simp
   rw [List.foldl_cons, List.length_cons]; omega
 simpa [keysF] using h l []
theorem EOut2 : Elem Tryz.prog 80 40 1 24 (.slice none 0 0) := EOut
structure FdX (l : List Cl) (w W : World) : Prop where
 no : ¬ Lin l
 r1 : W.heap[w.heap.size + 1]? = some (.cells #[.slice none 0 0] 40 (0, 0))
 r2 : W.heap[w.heap.size + 2]? = some (.cells #[.bool false] 4 (0, 0))
 r3 : W.heap[w.heap.size + 3]? = some (.cells #[.int .i64 0] 27 (0, 0))
 below : Below w.heap.size w W
theorem FdX.kept {l : List Cl} {w W W' : World} {B : Nat} (h : FdX l w W) (hB : w.heap.size + 4 ≤ B) {row : Option Nat} (hg : W.grownBy W' row) (hr : ∀ r, row = some r → B ≤ r) : FdX l w W' := by
 have hk : ∀ {k : Nat} {o : Obj}, k < B → W.heap[k]? = some o → W'.heap[k]? = some o := fun hk h => heap_keptP hg (fun e => by have := hr _ e.symm; omega) h
 exact ⟨h.no, hk (by omega) h.r1, hk (by omega) h.r2, hk (by omega) h.r3, h.below.grown hg h.below.size (fun k e => by have := hr k e; omega)⟩
theorem FdX.of {l : List Cl} {p : Option Addr} {c r6 : Nat} {w W : World} {pre : List ByteArray} {vo : Value} {vals : List Value} {rows : List (List Nat)} (h : FdI l p c r6 w pre vo vals rows W) (hn : ¬ Lin l) : FdX l w W := ⟨hn, h.r1, h.r2, h.r3, h.below⟩
theorem FdX.set {l : List Cl} {w W : World} (h : FdX l w W) : FdX l w (((W.setCell ⟨w.heap.size + 1, 0, none⟩ (.slice none 0 0)).setCell ⟨w.heap.size + 2, 0, none⟩ (.bool false)).setCell ⟨w.heap.size + 3, 0, none⟩ (.int .i64 0)) :=
 ⟨h.no, (Below.heap_setCell _ _ _ _ (by simp)).trans ((Below.heap_setCell _ _ _ _ (by simp)).trans (heap_setCell_same _ _ 0 _ _ _ h.r1)),
  (Below.heap_setCell _ _ _ _ (by simp)).trans (heap_setCell_same _ _ 0 _ _ _ ((Below.heap_setCell _ _ _ _ (by simp)).trans h.r2)),
  heap_setCell_same _ _ 0 _ _ _ ((Below.heap_setCell _ _ _ _ (by simp)).trans ((Below.heap_setCell _ _ _ _ (by simp)).trans h.r3)),
  ((h.below.setCell (by simp) _).setCell (by simp) _).setCell (by simp) _⟩
theorem fd_set3 {B : Nat} {W : World} {v1 v2 v3 u1 u2 u3 : Value} {T1 T2 T3 : TypeId} (h1 : W.heap[B + 1]? = some (.cells #[v1] T1 (0, 0))) (h2 : W.heap[B + 2]? = some (.cells #[v2] T2 (0, 0))) (h3 : W.heap[B + 3]? = some (.cells #[v3] T3 (0, 0))) :
  (((W.setCell ⟨B + 1, 0, none⟩ u1).setCell ⟨B + 2, 0, none⟩ u2).setCell ⟨B + 3, 0, none⟩ u3).heap[B + 1]? = some (.cells #[u1] T1 (0, 0)) ∧ (((W.setCell ⟨B + 1, 0, none⟩ u1).setCell ⟨B + 2, 0, none⟩ u2).setCell ⟨B + 3, 0, none⟩ u3).heap[B + 2]? = some (.cells #[u2] T2 (0, 0)) ∧ (((W.setCell ⟨B + 1, 0, none⟩ u1).setCell ⟨B + 2, 0, none⟩ u2).setCell ⟨B + 3, 0, none⟩ u3).heap[B + 3]? = some (.cells #[u3] T3 (0, 0)) :=
 ⟨(Below.heap_setCell _ _ _ _ (by simp)).trans ((Below.heap_setCell _ _ _ _ (by simp)).trans (heap_setCell_same _ _ 0 _ _ _ h1)),
  (Below.heap_setCell _ _ _ _ (by simp)).trans (heap_setCell_same _ _ 0 _ _ _ ((Below.heap_setCell _ _ _ _ (by simp)).trans h2)),
  heap_setCell_same _ _ 0 _ _ _ ((Below.heap_setCell _ _ _ _ (by simp)).trans ((Below.heap_setCell _ _ _ _ (by simp)).trans h3))⟩
theorem fd_cells {B d : Nat} {W : World} {u1 u2 u3 : Value} {T1 T2 T3 : TypeId} (hd : B + 4 ≤ d) (h : W.heap[B + 1]? = some (.cells #[u1] T1 (0, 0)) ∧ W.heap[B + 2]? = some (.cells #[u2] T2 (0, 0)) ∧ W.heap[B + 3]? = some (.cells #[u3] T3 (0, 0))) (o : Obj) :
  (W.putObj d o).cell? ⟨B + 1, 0, none⟩ = some u1 ∧ (W.putObj d o).cell? ⟨B + 2, 0, none⟩ = some u2 ∧ (W.putObj d o).cell? ⟨B + 3, 0, none⟩ = some u3 :=
 ⟨cell_of_row _ _ 0 _ _ _ ((World.putObj_heap_other (by omega)).trans h.1), cell_of_row _ _ 0 _ _ _ ((World.putObj_heap_other (by omega)).trans h.2.1), cell_of_row _ _ 0 _ _ _ ((World.putObj_heap_other (by omega)).trans h.2.2)⟩
theorem fd_first {l : List Cl} {p : Option Addr} {c : Nat} {w W0 w1 w3 : World} (h0 : W0.heap[w.heap.size]? = some (.cells #[.slice p l.length c] 32 (0, 0))) (h1 : W0.heap[w.heap.size + 1]? = some (.cells #[.slice none 0 0] 40 (0, 0))) (h2 : W0.heap[w.heap.size + 2]? = some (.cells #[.bool false] 4 (0, 0))) (h3 : W0.heap[w.heap.size + 3]? = some (.cells #[.int .i64 0] 27 (0, 0)))
  (hb0 : Below w.heap.size w W0) (hb1 : Below W0.heap.size W0 w1) (hb3 : Below (w1.alloc (.cells #[.slice none 0 0] 80)).heap.size (w1.alloc (.cells #[.slice none 0 0] 80)) w3) : FdI l p c w1.heap.size w [] (.slice none 0 0) [] [] w3 := by
 have hk : ∀ {k : Nat} {o : Obj}, W0.heap[k]? = some o → w3.heap[k]? = some o := fun h => by
  have e1 := (hb1.block _ (Array.getElem?_eq_some_iff.1 h).1).trans h
  exact (hb3.block _ (by have := (Array.getElem?_eq_some_iff.1 e1).1; simp; omega)).trans ((Below.heap_alloc _ _ _ (Array.getElem?_eq_some_iff.1 e1).1).trans e1)
 exact ⟨hk h0, hk h1, hk h2, hk h3, (hb3.block _ (by simp)).trans (heap_alloc_new w1 _), ⟨rfl, .inl ⟨rfl, rfl⟩⟩, ⟨rfl, fun j hj => by simp at hj⟩, rfl, fun j hj => by simp at hj,
  (hb0.trans (hb1.mono hb0.size)).trans (((Below.refl _ _).alloc (Nat.le_refl _) _).mono (Nat.le_trans hb0.size hb1.size) |>.trans (hb3.mono (by have h5 := hb0.size; have h6 := hb1.size; simp; omega)))⟩
set_option maxRecDepth 20000 in
set_option maxHeartbeats 8000000 in
theorem find_ok (l : List Cl) (p : Option Addr) (c : Nat) (w : World) (hl : l.length ≤ 1000000) (hc : l.length ≤ c) (hp : p = none → c = 0) (hrow : Row w p (l.flatMap Cl.cellsLn)) (hm : ∀ i, i < l.length → (cAt l i).to ≤ maxI) (hz : chkL l = 0) :
  Calls Tryz.prog 13 #[.slice p l.length c] w (FindTell l w) := by
 obtain ⟨W0, hW0, g0, g1, g2, g3, hs0, hb0⟩ := fd_start l p c w
 have HC := hid (check_anyLn l p c W0 hl hc (hrow.below hb0))
 unfold ChkTell at HC
 rw [hz] at HC
 have HZ := hid hz
 have HO := hid (chk_ok hz).2
 have HM := hid hm
 have HR := hid hrow
 have HW := hid hW0
 have HG := hid (⟨g0, g1, g2, g3⟩ : _ ∧ _ ∧ _ ∧ _)
 have HB0 := hid hb0
 clear hrow hz hW0 g0 g1 g2 g3 hb0 hm
 have y0 := cell_of_row _ _ 0 _ _ _ HG.out.1
 simp only [List.getElem?_toArray, List.getElem?_cons_zero] at y0
 refine callsIn_wide.1 (?_ : CallsIn Fence.wide 8 Tryz.prog 13 #[.slice p l.length c] w _)
 refine callsIn_of_wp_marks Tryz.func13 rfl (show Fence.wide.fn _ from trivial) ?_ rfl
 simp only [Tryz.ntmps13, List.size_toArray, List.length_cons, List.length_nil, Nat.reduceAdd, Nat.reduceSub, Array.replicate_succ, Array.replicate_zero, List.push_toArray, List.append_toArray, List.nil_append, List.cons_append]
 have HKY := hid (fun (W : World) (hb : Below w.heap.size w W) => keys_anyLn p c l W hl hp (HR.out.below hb))
 unfold KeysTell at HKY
 have hs4 : w.heap.size + 4 ≤ W0.heap.size := by omega
 clear hs0
 gi_wp2_with (first
  | (gi_at_call 30; rw [← HW.out]; (with_reducible refine (callsIn_wide.2 HC.out).mono ?_); rintro e w1 ⟨rfl, hb1⟩; have HB1 := hid hb1; have h0 := (hb1.block _ (by omega : w.heap.size < W0.heap.size)).trans HG.out.1; have H0 := hid h0; have z0 := cell_of_row _ _ 0 _ _ _ h0; simp only [List.getElem?_toArray, List.getElem?_cons_zero] at z0; have hz1 := hb1.size; have hzz : w.heap.size < w1.heap.size := (by omega); clear hb1 h0)
  | (gi_at_call 31; (with_reducible refine (callsIn_wide.2 (HKY.out _ ((HB0.out.trans (HB1.out.mono (by omega))).alloc (by omega) _))).mono ?_); rintro e w3 ⟨v3, rfl, hbx3, ho3, hb3⟩; simp only [World.size_alloc] at hbx3 ho3; have HBX3 := hid hbx3; have HO3 := hid ho3; have HB3 := hid hb3; have hz3 := hb3.size; simp only [World.size_alloc] at hz3; clear hbx3 ho3 hb3))
 have hI0 := fd_first HG.out.1 HG.out.2.1 HG.out.2.2.1 HG.out.2.2.2 HB0.out HB1.out HB3.out
 have hseq := keys1_seqLn 7 (by omega) l hl w.heap.size (fun T => T == 32 || T == 35) rfl rfl (w1.heap.size + 1) v3 w3 HBX3.out _ HO3.out
 have hw13 : w1.heap.size < w3.heap.size := by omega
 have hw14 : w.heap.size + 4 ≤ w1.heap.size := by omega
 have HBW1 : Hid (Below w.heap.size w w1) := HB0.out.trans (HB1.out.mono (by omega))
 clear HC HKY HW HG y0 z0 H0 HBX3 HO3 HB3
 refine wpIn_rangeFunc_O rfl (by omega) (gf := 49) (lb := #[.pointer (some ⟨w1.heap.size + 1, 0, none⟩)]) rfl trivial (enters_of Tryz.func49 (by kernel_rfl) rfl) hseq
  KpT.trans (fun W l o o' hl h1 h2 h3 => KpT.putObj (by omega) W l o o' hl h1 h2 h3) (Below.refl _ _) (fun _ => rfl)
  (fun pre W' => ∃ vo vals rows, FdI l p c w1.heap.size w pre vo vals rows W') (fun c pre W' => c = .ret ∧ FdX l w W')
  (fun s A B row hs hg hr => by obtain ⟨vo, vals, rows, h⟩ := hs; exact ⟨vo, vals, rows, h.kept (by omega) hw13 hg hr⟩)
  (fun c s A B row hs hg hr => ⟨hs.1, hs.2.kept (B := w3.heap.size) (by omega) hg (fun r e => (hr r e).1)⟩)
  ⟨_, _, _, hI0⟩
  ?act ?assign ?body ?done ?stop
 case assign =>
  intro l x W K hK
  simp only [encKLn]
  gi_wp2
  exact hK
 case body =>
  rintro l' pre x W1 ⟨vo, vals, rows, hI⟩ hlen
  have HI := hid hI
  have HRO := hid (row_any l p c x W1 hl hc (HR.out.below hI.below))
  unfold RowTell at HRO
  have y0 := cell_of_row _ _ 0 _ _ _ hI.box
  simp only [List.getElem?_toArray, List.getElem?_cons_zero] at y0
  have hw1 : w.heap.size < W1.heap.size := (Array.getElem?_eq_some_iff.1 hI.box).1
  clear hI
  gi_wp2
  (with_reducible refine ((callsIn_wide.2 HRO.out).inRound _).mono ?_)
  rintro e w5 ⟨sb, sa, hP, hb5, (⟨r, v, hr, rfl, hor⟩ | ⟨hr, rfl⟩)⟩
  ·have HOK := hid (row_said HO.out hP hr)
   obtain ⟨q, d, rfl, hrq⟩ := own_shape hor
   have HOR := hid hor
   have HB5 := hid hb5
   have HI5 := hid (HI.out.belowI hb5)
   have x0 := cell_of_row _ _ 0 _ _ _ HI5.out.rb
   have f0 : w5.frozen? ⟨w1.heap.size, 0, none⟩ = false := frozen_of_row _ _ _ _ _ HI5.out.rb
   simp only [List.getElem?_toArray, List.getElem?_cons_zero] at x0
   obtain ⟨po, co, rfl, -⟩ := own_shape HI.out.own
   have hz5 := hb5.size
   have hpl := keysF_len l
   have hw15 : w1.heap.size < w5.heap.size := (Array.getElem?_eq_some_iff.1 HI5.out.rb).1
   have hnr : some w1.heap.size ≠ (Value.slice po pre.length co).ownBlock := fun e => by
    obtain ⟨cur, h⟩ := own_type HI5.out.own _ e.symm
    rw [HI5.out.rb] at h; cases h
   have HNR := hid hnr
   clear hr hP hor hb5 hrq hnr y0
   gi_wp2_with ((with_reducible show wpListIn _ _ _ _ _ (⟨some 29, _, _, _, _, _⟩ :: _) _ _); go_loud (refine wpListIn_app EOut2 rfl _ _ rfl (w.heap.size + 4) _ _ _ rfl (HI5.out.own.alloc _) _ 1 1 [.slice q r.length d] rfl rfl (by simp) (row_newAt _ _ _ _ (by simp)) (by simp [Value.oneCell']) (by unfold maxLen; omega) (by omega) (by simp; omega) ?_); intro v7 w7 ho7 hg7 hs7; have HO7 := hid ho7; have HG7 := hid hg7; have HS7 := hid hs7; have hbx := (hg7.block _ (by simp; omega) HNR.out).trans ((Below.heap_alloc _ _ _ hw15).trans HI5.out.rb); have HBX := hid hbx; have d3 := cell_of_row _ _ 0 _ _ _ hbx; have f3 : w7.frozen? ⟨w1.heap.size, 0, none⟩ = false := frozen_of_row _ _ _ _ _ hbx; simp only [List.getElem?_toArray, List.getElem?_cons_zero] at d3; obtain ⟨p7, c7, rfl, -⟩ := own_shape ho7; clear ho7 hg7 hs7 hbx)
   have hgr : ∀ k, (Value.slice po pre.length co).ownBlock = some k → w.heap.size + 4 ≤ k ∧ ∃ cur, (w5.alloc (.cells #[.slice q r.length d] 40)).heap[k]? = some (.cells cur 40 (0, 0)) := fun k e => ⟨own_ge HI5.out.own k e, own_type (HI5.out.own.alloc _) k e⟩
   refine ⟨(keeps_below HB5.out).trans ((((KeepsOthers.alloc w5 _).trans (KeepsOthers.of_grownBy HG7.out (fun j o e h => by obtain ⟨cur, h2⟩ := (hgr j e).2; rw [h] at h2; cases h2; rfl))).trans (KeepsOthers.setCell w7 _ _)).from _), ?_, ⟨_, _, _, HI.out.push hw14 HB5.out HOR.out HOK.out HG7.out HS7.out HO7.out⟩⟩
   refine ((kpt_below (by omega) HB5.out).trans (KpT.alloc w5 (by omega) _)).trans ((KpT.grown HG7.out (by simp; omega) (fun k e => ⟨by have := (hgr k e).1; omega, fun cs T fz hS h => by obtain ⟨cur, h2⟩ := (hgr k e).2; rw [h] at h2; cases h2; cases hS⟩)).trans (KpT.grown (grownBy_setCell' w7 _ _) (by have := HG7.out.size; simp at this; omega) (fun k e => ?_)))
   cases e
   exact ⟨by omega, fun cs T fz hS h => by rw [HBX.out] at h; cases h; cases hS⟩
  ·have HNL := hid (row_none HO.out hP hr)
   have HI5 := hid (HI.out.belowI hb5)
   have HX := hid (FdX.of HI5.out HNL.out)
   have HKF : Hid (KeepsFrom w3.heap.size W1 w5) := keeps_below hb5
   have x1 := cell_of_row _ _ 0 _ _ _ HI5.out.r1
   have x2 := cell_of_row _ _ 0 _ _ _ HI5.out.r2
   have x3 := cell_of_row _ _ 0 _ _ _ HI5.out.r3
   have f1 : w5.frozen? ⟨w.heap.size + 1, 0, none⟩ = false := frozen_of_row _ _ _ _ _ HI5.out.r1
   have f2 : w5.frozen? ⟨w.heap.size + 2, 0, none⟩ = false := frozen_of_row _ _ _ _ _ HI5.out.r2
   have f3 : w5.frozen? ⟨w.heap.size + 3, 0, none⟩ = false := frozen_of_row _ _ _ _ _ HI5.out.r3
   simp only [List.getElem?_toArray, List.getElem?_cons_zero] at x1 x2 x3
   clear hr hP hb5 y0
   gi_wp2
   exact ⟨HKF.out.trans ((((KeepsOthers.setCell w5 _ _).trans (KeepsOthers.setCell _ _ _)).trans (KeepsOthers.setCell _ _ _)).from _), rfl, HX.out.set⟩
 case done =>
  rintro xs W1 rfl ⟨vo, vals, rows, hI⟩ hD
  have HI := hid hI
  have hkl := keysF_len l
  obtain ⟨b1, b2, b3, b4⟩ := find_fin HO.out HM.out (rows := rows) hI.len hI.ok
  have hrl : rows.length = (keysF l).length := hI.len
  have hwW : w.heap.size + 4 ≤ W1.heap.size := by have h1 := (Array.getElem?_eq_some_iff.1 hI.r3).1; omega
  obtain ⟨po, co, rfl, -⟩ := own_shape hI.own
  have HMG := hid (merge_any l p c (w.heap.size + 4) _ vals rows W1 hl (by omega) (by omega) hwW (fun w' hb => HR.out.below (hI.below.trans (hb.mono (by omega)))) (own_cast hI.own hrl.symm rfl) hI.ins b1 b2 HO.out.at HM.out)
  have HLG := hid b3
  unfold MergeTell at HMG
  generalize mergeN l rows.flatten.length rows = o at HMG HLG
  have y0 := cell_of_row _ _ 0 _ _ _ hI.box
  have y6 := cell_of_row _ _ 0 _ _ _ hI.rb
  simp only [List.getElem?_toArray, List.getElem?_cons_zero] at y0 y6
  have HD := hid hD
  have HRL := hid hrl
  have hdn : some w3.heap.size ≠ (Value.slice po (keysF l).length co).ownBlock := fun e => by
   obtain ⟨cur, h⟩ := own_type hI.own _ e.symm
   rw [hD] at h; cases h
  have HDN := hid hdn
  clear b1 b2 b3 b4 hrl hI hD hdn
  gi_wp2_with (gi_at_call 33; (with_reducible refine (callsIn_wide.2 HMG.out).mono ?_); rintro e w8 ⟨v8, rfl, ho8, hb8, hg8⟩; obtain ⟨p8, c8, rfl, -⟩ := own_shape ho8; have HO8 := hid ho8; have HB8 := hid hb8; have h1 := (hb8.block _ (by omega : w.heap.size + 1 < w.heap.size + 4)).trans HI.out.r1; have h2 := (hb8.block _ (by omega : w.heap.size + 2 < w.heap.size + 4)).trans HI.out.r2; have h3 := (hb8.block _ (by omega : w.heap.size + 3 < w.heap.size + 4)).trans HI.out.r3; have x1 := cell_of_row _ _ 0 _ _ _ h1; have x2 := cell_of_row _ _ 0 _ _ _ h2; have x3 := cell_of_row _ _ 0 _ _ _ h3; have f1 : w8.frozen? ⟨w.heap.size + 1, 0, none⟩ = false := frozen_of_row _ _ _ _ _ h1; have f2 : w8.frozen? ⟨w.heap.size + 2, 0, none⟩ = false := frozen_of_row _ _ _ _ _ h2; have f3 : w8.frozen? ⟨w.heap.size + 3, 0, none⟩ = false := frozen_of_row _ _ _ _ _ h3; simp only [List.getElem?_toArray, List.getElem?_cons_zero] at x1 x2 x3; have HD8 := hid ((hg8.block _ (Array.getElem?_eq_some_iff.1 HD.out).1 HDN.out).trans HD.out); have HH8 := hid (⟨h1, h2, h3⟩ : _ ∧ _ ∧ _); clear ho8 hb8 hg8 h1 h2 h3)
  have hfin := fd_set3 (u1 := .slice p8 o.length c8) (u2 := .bool true) (u3 := .int .i64 0) HH8.out.1 HH8.out.2.1 HH8.out.2.2
  have hDz : (((w8.setCell ⟨w.heap.size + 1, 0, none⟩ (.slice p8 o.length c8)).setCell ⟨w.heap.size + 2, 0, none⟩ (.bool true)).setCell ⟨w.heap.size + 3, 0, none⟩ (.int .i64 0)).heap[w3.heap.size]? = some (.deferred (some [])) := (Below.heap_setCell _ _ _ _ (by simp; omega)).trans ((Below.heap_setCell _ _ _ _ (by simp; omega)).trans ((Below.heap_setCell _ _ _ _ (by simp; omega)).trans HD8.out))
  refine ⟨by simp, .inl ⟨_, _, rfl, run_takeDeferred hDz, ?_⟩⟩
  obtain ⟨k1, k2, k3⟩ := fd_cells (d := w3.heap.size) (by omega) hfin (.deferred none)
  refine ⟨.tuple #[.slice p8 o.length c8, .bool true, .int .i64 0], by simp [results, Tryz.results13, go_sem, k1, k2, k3], ?_⟩
  unfold FindTell
  rw [HZ.out]
  refine ⟨_, o, true, rfl, by have := find_is HZ.out HLG.out; rwa [HZ.out] at this, ?_, ?_⟩
  ·have h1 : OwnI (((w8.setCell ⟨w.heap.size + 1, 0, none⟩ (.slice p8 o.length c8)).setCell ⟨w.heap.size + 2, 0, none⟩ (.bool true)).setCell ⟨w.heap.size + 3, 0, none⟩ (.int .i64 0)) (w.heap.size + 4) (.slice p8 o.length c8) o :=
    own_setO (own_setO (own_setO HO8.out _ _ (fun g e => by have := own_ge HO8.out g e; simp; omega)) _ _ (fun g e => by have := own_ge HO8.out g e; simp; omega)) _ _ (fun g e => by have := own_ge HO8.out g e; simp; omega)
   exact own_lower (own_keptB h1 (grownBy_putObj' _ _ _) (fun r e => by cases e; exact ⟨_, hDz, rfl⟩)) (by omega)
  ·exact ((((HI.out.below.trans (HB8.out.mono (by omega))).setCell (by simp) _).setCell (by simp <;> omega) _).setCell (by simp <;> omega) _).trans (belowK_b (w := w3) (by omega) _ _ _ _ (Nat.le_refl _) hDz rfl rfl)
 case stop =>
  rintro c pre W1 hpre ⟨rfl, hX⟩ hD
  gi_wp2
  refine ⟨by simp, .inl ⟨_, _, rfl, run_takeDeferred hD, ?_⟩⟩
  obtain ⟨k1, k2, k3⟩ := fd_cells (d := w3.heap.size) (by omega) ⟨hX.r1, hX.r2, hX.r3⟩ (.deferred none)
  refine ⟨.tuple #[.slice none 0 0, .bool false, .int .i64 0], by simp [results, Tryz.results13, go_sem, k1, k2, k3], ?_⟩
  unfold FindTell
  rw [HZ.out]
  refine ⟨_, [], false, rfl, by have := find_non hX.no; rwa [HZ.out] at this, own_nil0 _ _, ?_⟩
  exact hX.below.trans (belowK_b (w := w3) (by omega) _ _ _ _ (Nat.le_refl _) hD rfl rfl)
theorem find_any (l : List Cl) (p : Option Addr) (c : Nat) (w : World) (hl : l.length ≤ 1000000) (hc : l.length ≤ c) (hp : p = none → c = 0) (hrow : Row w p (l.flatMap Cl.cellsLn)) (hm : ∀ i, i < l.length → (cAt l i).to ≤ maxI) :
  Calls Tryz.prog 13 #[.slice p l.length c] w (FindTell l w) := by
 by_cases hz : chkL l = 0
 ·exact find_ok l p c w hl hc hp hrow hm hz
 ·exact find_bad l p c w hl hc hrow hz
end Go.Proofs.YtabkmdhkfbcldaaGreat
namespace Go.Proofs.YtabkmdhkfbcldaaGreat
open Go.RowKit
set_option maxHeartbeats 8000000 in
theorem rone_anyLn (a : Cl) (w : World) : Calls Tryz.prog 56 #[.agg a.cellsLn.toArray] w fun e w' => e = .returned (.bool (oneB a)) ∧ Below w.heap.size w w' := by
 obtain ⟨aw, ak, ay, av, af, at_, aa, ae⟩ := a
 show Calls Tryz.prog 56 #[.agg #[.int .i64 aw, .int .i64 ak, .string ay, .int .i64 av, .int .i64 af, .int .i64 at_, .int .i64 aa, .int .i64 ae]] w _
 have HY := fun h => hid (@one_yes ⟨aw, ak, ay, av, af, at_, aa, ae⟩ h)
 have HN := fun h => hid (@one_no ⟨aw, ak, ay, av, af, at_, aa, ae⟩ h)
 generalize oneB ⟨aw, ak, ay, av, af, at_, aa, ae⟩ = r at HY HN
 go_enter Tryz.func56, Tryz.ntmps56
 go_wp2
 all_goals (go_ret; refine ⟨ret_bool (by_val (fun hx => ?_) (fun hx => ?_)), (Below.refl _ _).alloc (Nat.le_refl _) _⟩)
 all_goals (try simp only [beq_iff_eq, beq_eq_false_iff_ne, bne_iff_ne, bne_eq_false_iff_eq, ne_eq, decide_eq_true_eq, decide_eq_false_iff_not, Bool.or_eq_false_iff, Bool.or_eq_true, Bool.and_eq_true, Bool.and_eq_false_iff] at *)
 all_goals first
  | (exfalso; revert hx; decide)
  | (refine (HN ?_).out; rintro ⟨h1, h2, h3, h4, h5, h6, h7, h8⟩; dsimp only at h1 h2 h3 h4 h5 h6 h7 h8; omega)
  | (refine (HY ⟨?_, ?_, ?_, ?_, ?_, ?_, ?_, ?_⟩).out <;> dsimp only <;> omega)
  | (refine (HY ⟨?_, ?_, ?_, ?_, ?_, ?_, ?_, ?_⟩).out <;> dsimp only <;> simp_all <;> omega)
end Go.Proofs.YtabkmdhkfbcldaaGreat
