/-
 New of the code's table: the walk.
 slices.Equal at calls.
 A table at its beginning; begun.
 begun: the walk; ShardHashes.
 few: what it means when it says yes.
 The table in plain words: how many steps are left; what comes of steps.
-/
import Derived.Test.YtabkmdhkfbcldaaGreatJL9
namespace Go.Proofs.YtabkmdhkfbcldaaGreat
open Go.RowKit
variable {w w' wr : World}
theorem akS_at {wp : Option Addr} {wc : Nat} {zs : List AkR} (h : AskIs w wp wc zs) (hn : 0 < zs.length) : ∃ b o, wp = some ⟨b, o, none⟩ ∧ b < w.heap.size ∧ ∀ k (hk : k < zs.length), w.cell? ⟨b, o + k, none⟩ = some (akS zs[k]) := by
 obtain ⟨b, o, rfl, hb, -⟩ := h.row.at (by simpa using hn)
 refine ⟨b, o, rfl, hb, fun k hk => ?_⟩
 rw [h.row.cell k (by simpa using hk)]
 simp
theorem ak_atR {b o : Nat} {ys : List Ak} (h : Row w (some ⟨b, o, none⟩) (ys.flatMap Ak.cells)) (k : Nat) (hk : k < ys.length) :
  w.cell? ⟨b, o + k * 3, none⟩ = some (.int .i64 ys[k].kind) ∧ w.cell? ⟨b, o + k * 3 + 1, none⟩ = some (.string ys[k].key) ∧ w.cell? ⟨b, o + k * 3 + 2, none⟩ = some (.int .i64 ys[k].value) := by
 have := ak_at h k hk
 have e : ys.getD k ak0 = ys[k] := by simp [List.getD_eq_getElem?_getD, hk]
 rwa [e] at this
theorem any_take_succ (l : List Ak) (j : Nat) (hj : j < l.length) : (l.take (j + 1)).any akBad = ((l.take j).any akBad || akBad l[j]) := by
 rw [List.take_add_one, List.getElem?_eq_getElem hj, List.any_append]; simp
theorem any_mem {l : List Ak} (j : Nat) (hj : j < l.length) (h : akBad l[j] = true) : l.any akBad = true := List.any_eq_true.2 ⟨l[j], List.getElem_mem hj, h⟩
theorem heap_newAt (w : World) (o : Obj) (n : Nat) (h : n = w.heap.size) : (w.alloc o).heap[n]? = some o := by subst h; exact heap_alloc_new w o
theorem mapAt {κ β : Type} (mk : κ → Value) (mv : β → Value) (w : World) (n : Nat) (h : n = w.heap.size) : MapIs mk mv (w.alloc (.map #[] 0)) n [] := by subst h; exact MapIs.made mk mv w
theorem row_heap {w : World} {g : Nat} {L : List Value} {T : TypeId} (h : w.heap[g]? = some (.cells L.toArray T (0, 0))) : Row w (some ⟨g, 0, none⟩) L := fun _ => ⟨g, 0, rfl, fun i hi => by
 rw [Nat.zero_add, cell_of_row w g i _ _ _ h]
 simp [hi]⟩
def lockR (p : Option Addr) (c : Nat) : CeR := ⟨lockCe (-1), p, c⟩
def lockL (p : Option Addr) (c : Nat) : List Value := [i64 2, i64 0, i64 (-1), i64 0, .slice p 0 c, i64 0, .bool false]
theorem rep_row (p : Option Addr) (c m : Nat) : ceRow (List.replicate m (lockR p c)) = repR (lockL p c) zcL m m := by
 unfold ceRow repR
 rw [List.flatMap_def, List.map_replicate, Nat.sub_self, List.replicate_zero, List.flatten_nil, List.append_nil]
 rfl
theorem rep_new (p : Option Addr) (c m : Nat) (hm : m ≤ 256) : newE ((List.replicate m (lockR p c)).map CeR.x) = 0 := by
 unfold newE
 rw [List.map_replicate, List.length_replicate, if_neg (by omega), if_pos]
 rw [List.all_replicate]
 split <;> first | rfl | (show okP (lockCe (-1)) = true; decide)
def NewK (zs : List AkR) (n : Int) (K : Wk) : Prop := K.work = lists zs ∧ (K.shards : Int) = n
set_option maxRecDepth 40000 in
set_option maxHeartbeats 4000000 in
theorem newT_walk (wp : Option Addr) (wc : Nat) (zs : List AkR) (w : World) (hA : AskIs w wp wc zs) (n : Int) (K : Wk) (hK : NewK zs n K) (h0 : ¬ (n < 1 ∨ 256 < n ∨ zs.length < 1 ∨ 64 < zs.length)) :
  Calls Tryz.prog 6 #[.int .i64 n, .slice wp zs.length wc] w (NewTT w n K (newTE n (lists zs))) := by
 have hll : (lists zs).length = zs.length := by simp [lists]
 have HE : Hid (newTE n (lists zs) = if 1024 < totA (lists zs) then 3 else if (lists zs).any (·.any akBad) then 270 else 0) := by
  unfold Hid newTE; rw [hll, if_neg h0]
 have hn1 : 1 ≤ n := by omega
 have hn2 : n ≤ 256 := by omega
 have hz1 : 1 ≤ zs.length := by omega
 have hz2 : zs.length ≤ 64 := by omega
 clear h0
 have HA := hid hA
 have HKK := hid hK
 obtain ⟨b, o, rfl, hbl, hcell⟩ := akS_at hA (by omega)
 have HC := hid hcell
 have hLk : ∀ k (hk : k < zs.length), (lists zs)[k]'(by rw [hll]; exact hk) = zs[k].2.2 := fun k hk => by simp [lists]
 have HTS : Hid (∀ k (hk : k < zs.length), totA ((lists zs).take (k + 1)) = totA ((lists zs).take k) + zs[k].2.2.length) := fun k hk => by rw [totA_succ _ k (by rw [hll]; exact hk), hLk k hk]
 have HTT : Hid (∀ k, totA ((lists zs).take k) ≤ totA (lists zs)) := fun k => totA_take _ k
 have HTF : Hid (totA ((lists zs).take zs.length) = totA (lists zs)) := by unfold Hid; rw [List.take_of_length_le (by rw [hll]; exact Nat.le_refl _)]
 have HLL := hid hll
 clear hA hK hcell hLk hll
 go_enter Tryz.func6, Tryz.ntmps6
 go_wp2_with fail
 go_loopw [34, 6] (fun i lv wr => ∃ k : Nat, k ≤ zs.length ∧ totA ((lists zs).take k) ≤ 1024 ∧ i = .int .i64 k ∧ lv = .int .i64 (1024 - (totA ((lists zs).take k) : Nat)) ∧ wr = w) (fun i _ _ => zs.length - (intOf i).toNat)
 case atStart => exact ⟨0, by omega, by simp [totA], rfl, by simp [totA], rfl⟩
 case round =>
  obtain ⟨k, hk, ht, rfl, rfl, hwr⟩ := hrel
  replace hwr := hwr.symm
  subst hwr
  by_cases hlt : k < zs.length
  ·have hck := HC.out k hlt
   have hts := HTS.out k hlt
   have hkI : (k : Int) < zs.length := by omega
   have HZK := hid (HA.out.each _ (List.getElem_mem hlt))
   generalize zs[k] = z at *
   obtain ⟨zp, zc, l⟩ := z
   unfold akS at hck
   dsimp only at hck hts HZK
   have HLM := hid hts
   clear hts
   generalize htk : totA ((lists zs).take k) = tk at *
   by_cases hbig : tk + l.length ≤ 1024
   ·have hb1 : ¬ ((1024 : Int) - (tk : Nat) < l.length) := by omega
    have hb2 : decide ((1024 : Int) - (tk : Nat) < l.length) = false := decide_eq_false hb1
    have hw1 : IntKind.i64.wrap ((1024 : Int) - (tk : Nat) - (l.length : Nat)) = 1024 - (tk : Nat) - (l.length : Nat) := IntWalk.i64_in _ (by omega)
    go_wp2_with fail
    refine ⟨⟨k + 1, by omega, by rw [HLM.out]; exact hbig, by go_num, ?_, trivial⟩, by simp [intOf]; omega⟩
    rw [HLM.out]; congr 1; omega
   ·have hb1 : (1024 : Int) - (tk : Nat) < l.length := by omega
    have hb2 : decide ((1024 : Int) - (tk : Nat) < l.length) = true := decide_eq_true hb1
    have HE3 : Hid (newTE n (lists zs) = 3) := by
     unfold Hid
     rw [HE.out, if_pos (by have h1 := HTT.out (k + 1); rw [HLM.out] at h1; omega)]
    go_wp2_with fail
    go_ret2
    rw [HE3.out]
    exact .inl ⟨by omega, rfl, Below.refl _ _⟩
  ·have hke : k = zs.length := by omega
   subst hke
   have HE2 : Hid (newTE n (lists zs) = if (lists zs).any (·.any akBad) then 270 else 0) := by
    unfold Hid; rw [HE.out, if_neg (by rw [← HTF.out]; omega)]
   have HLS : Hid (∀ k (hk : k < zs.length), zs[k].2.2.length ≤ 1024) := fun k hk => by
    have h1 := HTS.out k hk
    have h2 := HTT.out (k + 1)
    have h3 := HTF.out
    omega
   clear ht
   have hmm := @run_makeMap Tryz.prog
   have HM0 := hid (made_one (.int .i64 0) zs.length rfl)
   go_wp2_with ((with_reducible show wpList _ _ _ (⟨some 50, _, _, _, _, _⟩ :: _) _ _); go_loud (refine wpList_mkfull EI rfl _ _ rfl w.heap.size .i64 .i64 _ _ zs.length rfl rfl rfl rfl (by omega) (by unfold maxLen; omega) (Nat.le_refl _) ?_); intro w2 ho2 hg2; rw [HM0.out] at ho2; have HO2 := hid ho2; have HG2 := hid hg2; clear ho2 hg2)
   clear hmm
   have hz22 : w.heap.size ≤ w2.heap.size := HG2.out.size
   have HB2 : Hid (Below w.heap.size w w2) := (Below.refl _ _).grown HG2.out (Nat.le_refl _) (by simp)
   obtain ⟨W1, hW1⟩ : ∃ W1, W1 = (((w2.alloc (.map #[] 0)).alloc (.map #[] 0)).alloc (.map #[] 0)).alloc (.cells #[.pointer none, .int .i64 n, .slice none 0 0, .slice (some ⟨w.heap.size, 0, none⟩) zs.length zs.length, .map (some w2.heap.size), .map (some (w2.heap.size + 1)), .map (some (w2.heap.size + 2)), .slice none 0 0, .int .i64 0] 58) := ⟨_, rfl⟩
   have HN0 : Hid (NW w n zs w2.heap.size 0 (.slice none 0 0) [] W1) := by
    have hb : Below w2.heap.size w2 W1 := by
     rw [hW1]
     exact ((((Below.refl _ w2).alloc (Nat.le_refl _) _).alloc (by simp) _).alloc (by simp; omega) _).alloc (by simp; omega) _
    refine ⟨?_, World.ownsRow_nil _ _ _ _, rfl, fun i hi => (by omega), own_below HO2.out hb, ?_, ?_, ?_, fun l hl => (by simp at hl), HB2.out.trans (hb.mono hz22), hz22⟩
    ·rw [hW1]; exact heap_newAt _ _ _ (by simp)
    ·rw [hW1]; exact (((mapAt _ _ w2 _ rfl).alloc _).alloc _).alloc _
    ·rw [hW1]; exact ((mapAt _ _ (w2.alloc _) _ (by simp)).alloc _).alloc _
    ·rw [hW1]; exact (mapAt _ _ ((w2.alloc _).alloc _) _ (by simp)).alloc _
   rw [← hW1]
   generalize w2.heap.size = q at *
   clear hW1 HM0 HO2 HG2 HB2
   go_loopw [58] (fun i wx => ∃ (k : Nat) (vw : Value) (ws : List (Option Addr × Nat)), k ≤ zs.length ∧ i = .int .i64 k ∧ NW w n zs q k vw ws wx) (fun i _ => zs.length - (intOf i).toNat)
   case atStart => exact ⟨0, _, _, by omega, rfl, HN0.out⟩
   case round =>
    rename World => wx
    obtain ⟨k, vw, ws, hk, rfl, hnw⟩ := hrel
    have HNW := hid hnw
    clear hnw
    by_cases hlt : k < zs.length
    ·have hck := HC.out k hlt
     have hkI : (k : Int) < zs.length := by omega
     have HZK := hid (HA.out.each _ (List.getElem_mem hlt))
     have HLK := hid (HLS.out k hlt)
     have HPK := hid (fun (hok : zs[k].2.2.any akBad = false) => fun (w3 w8 : World) (o : Obj) (v' : Value) hb3 p c ho3 ho8 hg8 => HNW.out.push hlt hok (w3 := w3) (w8 := w8) hb3 p c ho3 (o := o) (v' := v') ho8 hg8)
     have HZM : Hid (zs[k].2.2 ∈ lists zs) := List.mem_map.2 ⟨_, List.getElem_mem hlt, rfl⟩
     generalize zs[k] = z at *
     obtain ⟨zp, zc, l⟩ := z
     unfold akS at hck
     dsimp only at hck HZK HLK HPK HZM
     have hblx : b < wx.heap.size := by have := HNW.out.b.size; omega
     have hck2 : wx.cell? ⟨b, o + k, none⟩ = some (.slice zp l.length zc) := (HNW.out.b.cell (p := ⟨b, o + k, none⟩) hbl).trans hck
     have HRW := hid ((HZK.out.2.1).below HNW.out.b)
     have hlc := HZK.out.2.2
     unfold maxLen at hlc
     go_wp2_with fail
     go_loopw [64] (fun i wy => ∃ j : Nat, j ≤ l.length ∧ (l.take j).any akBad = false ∧ i = .int .i64 j ∧ Below wx.heap.size wx wy) (fun i _ => l.length - (intOf i).toNat)
     case atStart => exact ⟨0, by omega, by simp, rfl, Below.refl _ _⟩
     case round =>
      rename World => wy
      obtain ⟨j, hj, hany, rfl, hby⟩ := hrel
      have HBY := hid hby
      clear hby
      by_cases hjl : j < l.length
      ·have hjI : (j : Int) < l.length := by omega
       obtain ⟨bb, oo, rfl, hbb, -⟩ := HZK.out.2.1.at (by have := flat_len Ak.cells 3 (fun _ => rfl) l; omega)
       obtain ⟨r0, r1, r2⟩ := ak_atR (HRW.out.below HBY.out) j hjl
       have HAS := hid (any_take_succ l j hjl)
       have HAM := hid (any_mem j hjl)
       have HBAD : Hid (l.any akBad = true → newTE n (lists zs) = 270) := fun h => by
        rw [HE2.out, if_pos (List.any_eq_true.2 ⟨l, HZM.out, h⟩)]
       generalize l[j] = ak at *
       obtain ⟨kd, ky, av⟩ := ak
       dsimp only at r0 r1 r2
       have HBW : Hid (Below w.heap.size w wy) := HNW.out.b.trans (HBY.out.mono HNW.out.b.size)
       by_cases b1 : kd < 1
       ·have b1' : decide (kd < 1) = true := decide_eq_true b1
        have HB : Hid (newTE n (lists zs) = 270) := HBAD.out (HAM.out (by unfold akBad; simp [b1]))
        go_wp2_with fail
        go_ret2
        rw [HB.out]
        exact .inl ⟨by omega, rfl, HBW.out.alloc HBW.out.size _⟩
       ·have b1' : decide (kd < 1) = false := decide_eq_false b1
        by_cases b2 : 3 < kd
        ·have b2' : decide (3 < kd) = true := decide_eq_true b2
         have HB : Hid (newTE n (lists zs) = 270) := HBAD.out (HAM.out (by unfold akBad; simp [b2]))
         go_wp2_with fail
         go_ret2
         rw [HB.out]
         exact .inl ⟨by omega, rfl, HBW.out.alloc HBW.out.size _⟩
        ·have b2' : decide (3 < kd) = false := decide_eq_false b2
         by_cases b3 : kd = 1
         ·have b3' : (kd != 1) = false := by simp [b3]
          have HG : Hid (akBad ⟨kd, ky, av⟩ = false) := by unfold Hid akBad; simp [b3]
          clear b1 b2 b3
          go_wp2_with fail
          exact ⟨⟨j + 1, by omega, by rw [HAS.out, hany, HG.out]; rfl, by go_num, HBY.out.alloc HBY.out.size _⟩, by simp [intOf]; omega⟩
         ·have b3' : (kd != 1) = true := by simp [b3]
          by_cases b4 : av = 0
          ·have b4' : (av != 0) = false := by simp [b4]
           have HG : Hid (akBad ⟨kd, ky, av⟩ = false) := by unfold Hid akBad; simp [b4]; omega
           clear b1 b2 b3 b4
           go_wp2_with fail
           exact ⟨⟨j + 1, by omega, by rw [HAS.out, hany, HG.out]; rfl, by go_num, HBY.out.alloc HBY.out.size _⟩, by simp [intOf]; omega⟩
          ·have b4' : (av != 0) = true := by simp [b4]
           have HB : Hid (newTE n (lists zs) = 270) := HBAD.out (HAM.out (by unfold akBad; simp [b3, b4]))
           clear b1 b2 b3 b4
           go_wp2_with fail
           go_ret2
           rw [HB.out]
           exact .inl ⟨by omega, rfl, HBW.out.alloc HBW.out.size _⟩
      ·have hje : j = l.length := by omega
       subst hje
       rw [List.take_of_length_le (Nat.le_refl _)] at hany
       have HNY := hid (HNW.out.below HBY.out)
       have HPY := hid (HPK.out hany)
       go_upto_region 21 with fail
       have hhy := HNY.out.head
       have c2 : wy.cell? ⟨q + 3, 2, none⟩ = some vw := cell_of_row _ _ 2 _ _ _ hhy
       obtain ⟨pvw, cvw, hvw, -⟩ := own_shape HNY.out.work
       rw [hvw] at c2
       have HVW := hid hvw
       have HCL := hid (fun w1 (hb : Below wy.heap.size wy w1) => cloneA_any zp zc l w1 (by have := HLK.out; omega) HZK.out.1 ((HRW.out.below HBY.out).below hb))
       unfold CloneA at HCL
       have hql : q + 3 < wy.heap.size := (Array.getElem?_eq_some_iff.1 hhy).1
       have HK3 : Hid (∀ w3, Below wy.heap.size wy w3 → w3.cell? ⟨q + 3, 2, none⟩ = some (.slice pvw k cvw)) := fun w3 hb => (hb.cell (p := ⟨q + 3, 2, none⟩) hql).trans c2
       have HKF : Hid (∀ (w3 w8 : World) (o : Obj), Below wy.heap.size wy w3 → (w3.alloc o).grownBy w8 vw.ownBlock → w8.cell? ⟨q + 3, 2, none⟩ = some (.slice pvw k cvw) ∧ w8.frozen? ⟨q + 3, 2, none⟩ = false) := fun w3 w8 o hb hg => by
        have h3 := HNY.out.below hb
        have hq3 := (Array.getElem?_eq_some_iff.1 h3.head).1
        have e : w8.heap[q + 3]? = w3.heap[q + 3]? := (hg.block (q + 3) (by simp; omega) (fun e => tag_ne (own_tag h3.work e.symm) h3.tagW (by decide) rfl)).trans (Below.heap_alloc w3 o _ hq3)
        exact ⟨((World.cell?_of_block (a := ⟨q + 3, 2, none⟩) e).trans (cell_of_row _ _ 2 _ _ _ h3.head)).trans (by rw [HVW.out]; rfl), (World.frozen?_of_block (a := ⟨q + 3, 2, none⟩) e).trans (frozen_of_row _ _ 2 _ _ h3.head)⟩
       clear hhy hvw
       refine wp_region_held_drew (S := fun _ : World => True) (by kernel_rfl) trivial (fun hHeld => ?_)
       refine wpAnyH_take (i := 0) (oi := { dst := some 87, op := Op.move (Operand.tmp 9), type := 26, pos := "shard.go:81", after := #[], guard := none }) (v := ?rnv0) rfl (by kernel_rfl) (by kernel_rfl) (by kernel_rfl) (fun _ _ _ h => h) (Or.inl ⟨by rfl, ?rnh0⟩) (by assumption) ?rnr0
       case rnh0 => ((intro w hSw; (try dsimp only at hSw); go_simp); try with_reducible rfl)
       try simp only [Act.put, List.setIfInBounds_toArray, List.set_cons_zero, List.set_cons_succ]
       refine wpAnyH_take (i := 1) (oi := { dst := some 88, op := Op.move (Operand.tmp 9), type := 26, pos := "shard.go:81", after := #[], guard := none }) (v := ?rnv1) rfl (by kernel_rfl) (by kernel_rfl) (by kernel_rfl) (fun _ _ _ h => h) (Or.inl ⟨by rfl, ?rnh1⟩) (by assumption) ?rnr1
       case rnh1 => ((intro w hSw; (try dsimp only at hSw); go_simp); try with_reducible rfl)
       try simp only [Act.put, List.setIfInBounds_toArray, List.set_cons_zero, List.set_cons_succ]
       refine wpAnyH_take (i := 2) (oi := { dst := some 89, op := Op.nilCheck (Operand.tmp 88), type := 0, pos := "shard.go:81", after := #[{ on := 1, ground := Ground.data }], guard := none }) (v := ?rnv2) rfl (by kernel_rfl) (by kernel_rfl) (by kernel_rfl) (fun _ _ _ h => h) (Or.inl ⟨by rfl, ?rnh2⟩) (by assumption) ?rnr2
       case rnh2 => ((intro w hSw; (try dsimp only at hSw); go_simp); try with_reducible rfl)
       try simp only [Act.put, List.setIfInBounds_toArray, List.set_cons_zero, List.set_cons_succ]
       refine wpAnyH_take (i := 3) (oi := { dst := some 90, op := Op.fieldAddr 58 (Operand.tmp 89) 2, type := 0, pos := "shard.go:81", after := #[{ on := 2, ground := Ground.data }], guard := none }) (v := ?rnv3) rfl (by kernel_rfl) (by kernel_rfl) (by kernel_rfl) (fun _ _ _ h => h) (Or.inl ⟨by rfl, ?rnh3⟩) (by assumption) ?rnr3
       case rnh3 => ((intro w hSw; (try dsimp only at hSw); go_simp); try with_reducible rfl)
       try simp only [Act.put, List.setIfInBounds_toArray, List.set_cons_zero, List.set_cons_succ]
       refine wpAnyH_take (i := 5) (oi := { dst := some 92, op := Op.move (Operand.tmp 11), type := 47, pos := "shard.go:81", after := #[], guard := none }) (v := ?rnv5) rfl (by kernel_rfl) (by kernel_rfl) (by kernel_rfl) (fun _ _ _ h => h) (Or.inl ⟨by rfl, ?rnh5⟩) (by assumption) ?rnr5
       case rnh5 => ((intro w hSw; (try dsimp only at hSw); go_simp); try with_reducible rfl)
       try simp only [Act.put, List.setIfInBounds_toArray, List.set_cons_zero, List.set_cons_succ]
       refine wpAnyH_ready (rs := [4, 6]) (by kernel_rfl) (by simp) ?_
       refine AllReadyH.cons (o := { dst := some 91, op := Op.load 22 (Operand.tmp 90), type := 22, pos := "shard.go:81", after := #[{ on := 3, ground := Ground.data }], guard := none }) rfl (fun K hK => ?_) ?_
       ·go_simp; refine hK.out _ _ trivial (fun hHeld => ?_)
        clear hK K
        try simp only [Act.put, List.setIfInBounds_toArray, List.set_cons_zero, List.set_cons_succ]
        refine wpAnyH_ready (rs := [6]) (by kernel_rfl) (by simp) ?_
        refine AllReadyH.cons (o := { dst := some 93, op := Op.call { callee := Callee.value (Operand.func 19), args := #[Operand.tmp 92], argTypes := #[47] }, type := 47, pos := "shard.go:81", after := #[{ on := 5, ground := Ground.data }], guard := none }) rfl (fun K hK => ?_) AllReadyH.nil
        go_simp; go_at_call 19; (with_reducible refine (HCL.out _ (Below.refl _ wy).drew).mono ?_); rintro e w3 ⟨v3, rfl, ho3, hb3⟩; obtain ⟨p3, c3, rfl, -⟩ := own_shape ho3; have HO3 := hid ho3; have hb3' : Below wy.heap.size wy w3 := (Below.refl _ wy).drew.trans hb3; have HB3 := hid hb3'; have c23 := HK3.out w3 hb3'; have hq3 : q + 3 < w3.heap.size := Nat.lt_of_lt_of_le hql hb3'.size; clear ho3 hb3 hb3'; refine hK.out _ _ trivial (fun hHeld => ?_)
        clear hK K
        try simp only [Act.put, List.setIfInBounds_toArray, List.set_cons_zero, List.set_cons_succ]
        refine wpAnyH_ready (rs := [7]) (by kernel_rfl) (by simp) ?_
        refine AllReadyH.cons (o := { dst := some 94, op := Op.buildSlice 22 1 #[(0, Operand.tmp 93)], type := 22, pos := "shard.go:81", after := #[{ on := 6, ground := Ground.data }], guard := none }) rfl (fun K hK => ?_) AllReadyH.nil
        go_simp; refine hK.out _ _ trivial (fun hHeld => ?_)
        clear hK K
        try simp only [Act.put, List.setIfInBounds_toArray, List.set_cons_zero, List.set_cons_succ]
        refine wpAnyH_ready (rs := [8]) (by kernel_rfl) (by simp) ?_
        refine AllReadyH.cons (o := { dst := some 95, op := Op.call { callee := Callee.builtin Builtin.append, args := #[Operand.tmp 91, Operand.tmp 94], argTypes := #[22, 22] }, type := 22, pos := "shard.go:81", after := #[{ on := 4, ground := Ground.data }, { on := 7, ground := Ground.data }, { on := 6, ground := Ground.chain }], guard := none }) rfl (fun K hK => ?_) AllReadyH.nil
        (refine step_app EAskL rfl (.tmp 91) (.tmp 94) rfl w.heap.size (.slice pvw k cvw) k (List.zipWith wkV ((lists zs).take k) ws) rfl (by rw [← HVW.out]; exact (HNY.out.below HB3.out).work.alloc _) _ 1 1 [.slice p3 l.length c3] rfl rfl (row_newAt _ _ _ _ rfl) (by intro u hu; simp at hu; subst hu; rfl) (by unfold maxLen; omega) (by omega) (by have h1 := HNY.out.b.size; have h2 := HB3.out.size; simp; omega) ?_); intro v8 w8 ho8 hg8 hs8; have hg8' := hg8; rw [← HVW.out] at hg8'; obtain ⟨p8, c8, rfl, -⟩ := own_shape ho8; have HO8 := hid ho8; have HG8 := hid hg8'; obtain ⟨y2, yf⟩ := HKF.out w3 w8 _ HB3.out hg8'; clear ho8 hg8 hs8 hg8'; refine hK.out _ _ trivial (fun hHeld => ?_)
        clear hK K
        try simp only [Act.put, List.setIfInBounds_toArray, List.set_cons_zero, List.set_cons_succ]
        refine wpAnyH_take (i := 9) (oi := { dst := some 96, op := Op.nilCheck (Operand.tmp 87), type := 0, pos := "shard.go:81", after := #[{ on := 0, ground := Ground.data }, { on := 0, ground := Ground.phase }, { on := 1, ground := Ground.phase }, { on := 2, ground := Ground.phase }, { on := 3, ground := Ground.phase }, { on := 4, ground := Ground.phase }, { on := 5, ground := Ground.phase }, { on := 6, ground := Ground.phase }, { on := 7, ground := Ground.phase }, { on := 8, ground := Ground.phase }], guard := none }) (v := ?rnav9) rfl (by kernel_rfl) (by kernel_rfl) (by kernel_rfl) (fun _ _ _ h => h) (Or.inl ⟨by rfl, ?rnah9⟩) (by assumption) ?rnar9
        case rnah9 => ((intro w hSw; (try dsimp only at hSw); go_simp); try with_reducible rfl)
        try simp only [Act.put, List.setIfInBounds_toArray, List.set_cons_zero, List.set_cons_succ]
        refine wpAnyH_take (i := 10) (oi := { dst := some 97, op := Op.fieldAddr 58 (Operand.tmp 96) 2, type := 0, pos := "shard.go:81", after := #[{ on := 9, ground := Ground.data }, { on := 0, ground := Ground.phase }, { on := 1, ground := Ground.phase }, { on := 2, ground := Ground.phase }, { on := 3, ground := Ground.phase }, { on := 4, ground := Ground.phase }, { on := 5, ground := Ground.phase }, { on := 6, ground := Ground.phase }, { on := 7, ground := Ground.phase }, { on := 8, ground := Ground.phase }], guard := none }) (v := ?rnav10) rfl (by kernel_rfl) (by kernel_rfl) (by kernel_rfl) (fun _ _ _ h => h) (Or.inl ⟨by rfl, ?rnah10⟩) (by assumption) ?rnar10
        case rnah10 => ((intro w hSw; (try dsimp only at hSw); go_simp); try with_reducible rfl)
        try simp only [Act.put, List.setIfInBounds_toArray, List.set_cons_zero, List.set_cons_succ]
        refine wpAnyH_ready (rs := [11]) (by kernel_rfl) (by simp) ?_
        refine AllReadyH.cons (o := { dst := none, op := Op.store 22 (Operand.tmp 97) (Operand.tmp 95), type := 0, pos := "shard.go:81", after := #[{ on := 10, ground := Ground.data }, { on := 8, ground := Ground.data }, { on := 8, ground := Ground.chain }, { on := 0, ground := Ground.phase }, { on := 1, ground := Ground.phase }, { on := 2, ground := Ground.phase }, { on := 3, ground := Ground.phase }, { on := 4, ground := Ground.phase }, { on := 5, ground := Ground.phase }, { on := 6, ground := Ground.phase }, { on := 7, ground := Ground.phase }, { on := 8, ground := Ground.phase }], guard := none }) rfl (fun K hK => ?_) AllReadyH.nil
        go_simp; refine hK.out _ _ trivial (fun hHeld => ?_)
        clear hK K
        try simp only [Act.put, List.setIfInBounds_toArray, List.set_cons_zero, List.set_cons_succ]
        refine wpAnyH_done (by kernel_rfl) ?_ _
        go_wp2_with fail
        exact ⟨⟨k + 1, _, _, by omega, by go_num, HPK.out hany w3 w8 _ _ (HBY.out.trans (HB3.out.mono HBY.out.size)) p3 c3 (own_lower HO3.out HBY.out.size) HO8.out HG8.out⟩, by simp [intOf]; omega⟩
       refine AllReadyH.cons (o := { dst := some 93, op := Op.call { callee := Callee.value (Operand.func 19), args := #[Operand.tmp 92], argTypes := #[47] }, type := 47, pos := "shard.go:81", after := #[{ on := 5, ground := Ground.data }], guard := none }) rfl (fun K hK => ?_) AllReadyH.nil
       go_simp; go_at_call 19; (with_reducible refine (HCL.out _ (Below.refl _ wy).drew).mono ?_); rintro e w3 ⟨v3, rfl, ho3, hb3⟩; obtain ⟨p3, c3, rfl, -⟩ := own_shape ho3; have HO3 := hid ho3; have hb3' : Below wy.heap.size wy w3 := (Below.refl _ wy).drew.trans hb3; have HB3 := hid hb3'; have c23 := HK3.out w3 hb3'; have hq3 : q + 3 < w3.heap.size := Nat.lt_of_lt_of_le hql hb3'.size; clear ho3 hb3 hb3'; refine hK.out _ _ trivial (fun hHeld => ?_)
       clear hK K
       try simp only [Act.put, List.setIfInBounds_toArray, List.set_cons_zero, List.set_cons_succ]
       refine wpAnyH_ready (rs := [4, 7]) (by kernel_rfl) (by simp) ?_
       refine AllReadyH.cons (o := { dst := some 91, op := Op.load 22 (Operand.tmp 90), type := 22, pos := "shard.go:81", after := #[{ on := 3, ground := Ground.data }], guard := none }) rfl (fun K hK => ?_) ?_
       ·go_simp; refine hK.out _ _ trivial (fun hHeld => ?_)
        clear hK K
        try simp only [Act.put, List.setIfInBounds_toArray, List.set_cons_zero, List.set_cons_succ]
        refine wpAnyH_ready (rs := [7]) (by kernel_rfl) (by simp) ?_
        refine AllReadyH.cons (o := { dst := some 94, op := Op.buildSlice 22 1 #[(0, Operand.tmp 93)], type := 22, pos := "shard.go:81", after := #[{ on := 6, ground := Ground.data }], guard := none }) rfl (fun K hK => ?_) AllReadyH.nil
        go_simp; refine hK.out _ _ trivial (fun hHeld => ?_)
        clear hK K
        try simp only [Act.put, List.setIfInBounds_toArray, List.set_cons_zero, List.set_cons_succ]
        refine wpAnyH_ready (rs := [8]) (by kernel_rfl) (by simp) ?_
        refine AllReadyH.cons (o := { dst := some 95, op := Op.call { callee := Callee.builtin Builtin.append, args := #[Operand.tmp 91, Operand.tmp 94], argTypes := #[22, 22] }, type := 22, pos := "shard.go:81", after := #[{ on := 4, ground := Ground.data }, { on := 7, ground := Ground.data }, { on := 6, ground := Ground.chain }], guard := none }) rfl (fun K hK => ?_) AllReadyH.nil
        (refine step_app EAskL rfl (.tmp 91) (.tmp 94) rfl w.heap.size (.slice pvw k cvw) k (List.zipWith wkV ((lists zs).take k) ws) rfl (by rw [← HVW.out]; exact (HNY.out.below HB3.out).work.alloc _) _ 1 1 [.slice p3 l.length c3] rfl rfl (row_newAt _ _ _ _ rfl) (by intro u hu; simp at hu; subst hu; rfl) (by unfold maxLen; omega) (by omega) (by have h1 := HNY.out.b.size; have h2 := HB3.out.size; simp; omega) ?_); intro v8 w8 ho8 hg8 hs8; have hg8' := hg8; rw [← HVW.out] at hg8'; obtain ⟨p8, c8, rfl, -⟩ := own_shape ho8; have HO8 := hid ho8; have HG8 := hid hg8'; obtain ⟨y2, yf⟩ := HKF.out w3 w8 _ HB3.out hg8'; clear ho8 hg8 hs8 hg8'; refine hK.out _ _ trivial (fun hHeld => ?_)
        clear hK K
        try simp only [Act.put, List.setIfInBounds_toArray, List.set_cons_zero, List.set_cons_succ]
        refine wpAnyH_take (i := 9) (oi := { dst := some 96, op := Op.nilCheck (Operand.tmp 87), type := 0, pos := "shard.go:81", after := #[{ on := 0, ground := Ground.data }, { on := 0, ground := Ground.phase }, { on := 1, ground := Ground.phase }, { on := 2, ground := Ground.phase }, { on := 3, ground := Ground.phase }, { on := 4, ground := Ground.phase }, { on := 5, ground := Ground.phase }, { on := 6, ground := Ground.phase }, { on := 7, ground := Ground.phase }, { on := 8, ground := Ground.phase }], guard := none }) (v := ?rnbav9) rfl (by kernel_rfl) (by kernel_rfl) (by kernel_rfl) (fun _ _ _ h => h) (Or.inl ⟨by rfl, ?rnbah9⟩) (by assumption) ?rnbar9
        case rnbah9 => ((intro w hSw; (try dsimp only at hSw); go_simp); try with_reducible rfl)
        try simp only [Act.put, List.setIfInBounds_toArray, List.set_cons_zero, List.set_cons_succ]
        refine wpAnyH_take (i := 10) (oi := { dst := some 97, op := Op.fieldAddr 58 (Operand.tmp 96) 2, type := 0, pos := "shard.go:81", after := #[{ on := 9, ground := Ground.data }, { on := 0, ground := Ground.phase }, { on := 1, ground := Ground.phase }, { on := 2, ground := Ground.phase }, { on := 3, ground := Ground.phase }, { on := 4, ground := Ground.phase }, { on := 5, ground := Ground.phase }, { on := 6, ground := Ground.phase }, { on := 7, ground := Ground.phase }, { on := 8, ground := Ground.phase }], guard := none }) (v := ?rnbav10) rfl (by kernel_rfl) (by kernel_rfl) (by kernel_rfl) (fun _ _ _ h => h) (Or.inl ⟨by rfl, ?rnbah10⟩) (by assumption) ?rnbar10
        case rnbah10 => ((intro w hSw; (try dsimp only at hSw); go_simp); try with_reducible rfl)
        try simp only [Act.put, List.setIfInBounds_toArray, List.set_cons_zero, List.set_cons_succ]
        refine wpAnyH_ready (rs := [11]) (by kernel_rfl) (by simp) ?_
        refine AllReadyH.cons (o := { dst := none, op := Op.store 22 (Operand.tmp 97) (Operand.tmp 95), type := 0, pos := "shard.go:81", after := #[{ on := 10, ground := Ground.data }, { on := 8, ground := Ground.data }, { on := 8, ground := Ground.chain }, { on := 0, ground := Ground.phase }, { on := 1, ground := Ground.phase }, { on := 2, ground := Ground.phase }, { on := 3, ground := Ground.phase }, { on := 4, ground := Ground.phase }, { on := 5, ground := Ground.phase }, { on := 6, ground := Ground.phase }, { on := 7, ground := Ground.phase }, { on := 8, ground := Ground.phase }], guard := none }) rfl (fun K hK => ?_) AllReadyH.nil
        go_simp; refine hK.out _ _ trivial (fun hHeld => ?_)
        clear hK K
        try simp only [Act.put, List.setIfInBounds_toArray, List.set_cons_zero, List.set_cons_succ]
        refine wpAnyH_done (by kernel_rfl) ?_ _
        go_wp2_with fail
        exact ⟨⟨k + 1, _, _, by omega, by go_num, HPK.out hany w3 w8 _ _ (HBY.out.trans (HB3.out.mono HBY.out.size)) p3 c3 (own_lower HO3.out HBY.out.size) HO8.out HG8.out⟩, by simp [intOf]; omega⟩
       refine AllReadyH.cons (o := { dst := some 94, op := Op.buildSlice 22 1 #[(0, Operand.tmp 93)], type := 22, pos := "shard.go:81", after := #[{ on := 6, ground := Ground.data }], guard := none }) rfl (fun K hK => ?_) AllReadyH.nil
       go_simp; refine hK.out _ _ trivial (fun hHeld => ?_)
       clear hK K
       try simp only [Act.put, List.setIfInBounds_toArray, List.set_cons_zero, List.set_cons_succ]
       refine wpAnyH_ready (rs := [4]) (by kernel_rfl) (by simp) ?_
       refine AllReadyH.cons (o := { dst := some 91, op := Op.load 22 (Operand.tmp 90), type := 22, pos := "shard.go:81", after := #[{ on := 3, ground := Ground.data }], guard := none }) rfl (fun K hK => ?_) AllReadyH.nil
       go_simp; refine hK.out _ _ trivial (fun hHeld => ?_)
       clear hK K
       try simp only [Act.put, List.setIfInBounds_toArray, List.set_cons_zero, List.set_cons_succ]
       refine wpAnyH_ready (rs := [8]) (by kernel_rfl) (by simp) ?_
       refine AllReadyH.cons (o := { dst := some 95, op := Op.call { callee := Callee.builtin Builtin.append, args := #[Operand.tmp 91, Operand.tmp 94], argTypes := #[22, 22] }, type := 22, pos := "shard.go:81", after := #[{ on := 4, ground := Ground.data }, { on := 7, ground := Ground.data }, { on := 6, ground := Ground.chain }], guard := none }) rfl (fun K hK => ?_) AllReadyH.nil
       (refine step_app EAskL rfl (.tmp 91) (.tmp 94) rfl w.heap.size (.slice pvw k cvw) k (List.zipWith wkV ((lists zs).take k) ws) rfl (by rw [← HVW.out]; exact (HNY.out.below HB3.out).work.alloc _) _ 1 1 [.slice p3 l.length c3] rfl rfl (row_newAt _ _ _ _ rfl) (by intro u hu; simp at hu; subst hu; rfl) (by unfold maxLen; omega) (by omega) (by have h1 := HNY.out.b.size; have h2 := HB3.out.size; simp; omega) ?_); intro v8 w8 ho8 hg8 hs8; have hg8' := hg8; rw [← HVW.out] at hg8'; obtain ⟨p8, c8, rfl, -⟩ := own_shape ho8; have HO8 := hid ho8; have HG8 := hid hg8'; obtain ⟨y2, yf⟩ := HKF.out w3 w8 _ HB3.out hg8'; clear ho8 hg8 hs8 hg8'; refine hK.out _ _ trivial (fun hHeld => ?_)
       clear hK K
       try simp only [Act.put, List.setIfInBounds_toArray, List.set_cons_zero, List.set_cons_succ]
       refine wpAnyH_take (i := 9) (oi := { dst := some 96, op := Op.nilCheck (Operand.tmp 87), type := 0, pos := "shard.go:81", after := #[{ on := 0, ground := Ground.data }, { on := 0, ground := Ground.phase }, { on := 1, ground := Ground.phase }, { on := 2, ground := Ground.phase }, { on := 3, ground := Ground.phase }, { on := 4, ground := Ground.phase }, { on := 5, ground := Ground.phase }, { on := 6, ground := Ground.phase }, { on := 7, ground := Ground.phase }, { on := 8, ground := Ground.phase }], guard := none }) (v := ?rnbbv9) rfl (by kernel_rfl) (by kernel_rfl) (by kernel_rfl) (fun _ _ _ h => h) (Or.inl ⟨by rfl, ?rnbbh9⟩) (by assumption) ?rnbbr9
       case rnbbh9 => ((intro w hSw; (try dsimp only at hSw); go_simp); try with_reducible rfl)
       try simp only [Act.put, List.setIfInBounds_toArray, List.set_cons_zero, List.set_cons_succ]
       refine wpAnyH_take (i := 10) (oi := { dst := some 97, op := Op.fieldAddr 58 (Operand.tmp 96) 2, type := 0, pos := "shard.go:81", after := #[{ on := 9, ground := Ground.data }, { on := 0, ground := Ground.phase }, { on := 1, ground := Ground.phase }, { on := 2, ground := Ground.phase }, { on := 3, ground := Ground.phase }, { on := 4, ground := Ground.phase }, { on := 5, ground := Ground.phase }, { on := 6, ground := Ground.phase }, { on := 7, ground := Ground.phase }, { on := 8, ground := Ground.phase }], guard := none }) (v := ?rnbbv10) rfl (by kernel_rfl) (by kernel_rfl) (by kernel_rfl) (fun _ _ _ h => h) (Or.inl ⟨by rfl, ?rnbbh10⟩) (by assumption) ?rnbbr10
       case rnbbh10 => ((intro w hSw; (try dsimp only at hSw); go_simp); try with_reducible rfl)
       try simp only [Act.put, List.setIfInBounds_toArray, List.set_cons_zero, List.set_cons_succ]
       refine wpAnyH_ready (rs := [11]) (by kernel_rfl) (by simp) ?_
       refine AllReadyH.cons (o := { dst := none, op := Op.store 22 (Operand.tmp 97) (Operand.tmp 95), type := 0, pos := "shard.go:81", after := #[{ on := 10, ground := Ground.data }, { on := 8, ground := Ground.data }, { on := 8, ground := Ground.chain }, { on := 0, ground := Ground.phase }, { on := 1, ground := Ground.phase }, { on := 2, ground := Ground.phase }, { on := 3, ground := Ground.phase }, { on := 4, ground := Ground.phase }, { on := 5, ground := Ground.phase }, { on := 6, ground := Ground.phase }, { on := 7, ground := Ground.phase }, { on := 8, ground := Ground.phase }], guard := none }) rfl (fun K hK => ?_) AllReadyH.nil
       go_simp; refine hK.out _ _ trivial (fun hHeld => ?_)
       clear hK K
       try simp only [Act.put, List.setIfInBounds_toArray, List.set_cons_zero, List.set_cons_succ]
       refine wpAnyH_done (by kernel_rfl) ?_ _
       go_wp2_with fail
       exact ⟨⟨k + 1, _, _, by omega, by go_num, HPK.out hany w3 w8 _ _ (HBY.out.trans (HB3.out.mono HBY.out.size)) p3 c3 (own_lower HO3.out HBY.out.size) HO8.out HG8.out⟩, by simp [intOf]; omega⟩
    ·have hke : k = zs.length := by omega
     subst hke
     have HE0 : Hid (newTE n (lists zs) = 0) := by
      unfold Hid
      rw [HE2.out, if_neg]
      rw [Bool.not_eq_true, List.any_eq_false]
      intro l hl
      have h1 := HNW.out.ok l (by rw [List.take_of_length_le (by rw [HLL.out]; exact Nat.le_refl _)]; exact hl)
      rw [h1]; simp
     obtain ⟨m, hm⟩ : ∃ m : Nat, n = m := ⟨n.toNat, by omega⟩
     subst hm
     have hKs : K.shards = m := by have := HKK.out.2; omega
     have HMK : Hid (Calls Tryz.prog 20 #[i64 2, i64 0] wx (CeTell (lockCe (-1)) [i64 0] wx)) := make_any 2 0 wx
     unfold CeTell Ce.val lockCe at HMK
     dsimp only [List.cons_append, List.nil_append, List.length_nil] at HMK
     have HRP : Hid (∀ (p3 : Option Addr) (c3 : Nat) (w5 : World) (xb : Nat), w5.heap[xb]? = some (.cells #[.int .i64 2, .int .i64 0, .int .i64 (-1), .int .i64 0, .slice p3 0 c3, .int .i64 0, .bool false] 61 (0, 0)) → Calls Tryz.prog 22 #[.slice (some ⟨xb, 0, none⟩) 1 1, .int .i64 m] w5 fun e w' => ∃ g, e = .returned (.slice (some ⟨g, 0, none⟩) m m) ∧ w'.heap[g]? = some (.cells (repR (lockL p3 c3) zcL m m).toArray 61 (0, 0)) ∧ w5.heap.size ≤ g ∧ Below w5.heap.size w5 w') := fun p3 c3 w5 xb hx => repeatC_any (lockL p3 c3) rfl (by intro u hu; simp [lockL] at hu; rcases hu with rfl | rfl | rfl | rfl | rfl | rfl | rfl <;> rfl) m (by omega) (w := w5) xb hx
     have HNE : Hid (∀ (g : Nat) (p3 : Option Addr) (c3 : Nat) (w5 : World), w5.heap[g]? = some (.cells (repR (lockL p3 c3) zcL m m).toArray 61 (0, 0)) → SlAt w5 p3 c3 [] → Calls Tryz.prog 21 #[.slice (some ⟨g, 0, none⟩) m m] w5 (NewTell w5 hdM ((List.replicate m (lockR p3 c3)).map CeR.x))) := fun g p3 c3 w5 h5 hs => by
      have e := new_any (some ⟨g, 0, none⟩) m (List.replicate m (lockR p3 c3)) w5 (by simp) (by unfold maxLen; omega) (by rw [rep_row]; exact row_heap h5) (fun z hz => by rw [(List.mem_replicate.1 hz).2]; exact hs) (fun z hz => by rw [(List.mem_replicate.1 hz).2]; simp [lockR, lockCe])
      rw [List.length_replicate] at e
      exact e
     have HNN : Hid (∀ (p3 : Option Addr) (c3 : Nat), newE ((List.replicate m (lockR p3 c3)).map CeR.x) = 0) := fun p3 c3 => rep_new p3 c3 m (by omega)
     have HFIN : Hid (∀ (w5 w6 : World) (p3 : Option Addr) (c3 d : Nat) (fp : Nat → Prop), Below wx.heap.size wx w5 → Below w5.heap.size w5 w6 → MMach w6 w5.heap.size d hdM ⟨(List.replicate m (lockR p3 c3)).map CeR.x, 0⟩ fp → (∀ k, fp k → w5.heap.size ≤ k) → NewTT w m K 0 (.returned (.tuple #[.pointer (some ⟨q + 3, 0, none⟩), .int .i64 0])) (w6.setCell ⟨q + 3, 0, none⟩ (.pointer (some ⟨d, 0, none⟩)))) := fun w5 w6 p3 c3 d fp h1 h2 h3 h4 => by
      refine HNW.out.done K HKK.out.1 HKK.out.2 h1 h2 ?_ h4
      rw [List.map_replicate] at h3 ⊢
      rw [hKs]
      exact h3
     have HC6 : Hid (∀ w6, Below wx.heap.size wx w6 → w6.cell? ⟨q + 3, 0, none⟩ = some (.pointer none) ∧ w6.frozen? ⟨q + 3, 0, none⟩ = false) := fun w6 hb => by
      have h6 := (HNW.out.below hb).head
      exact ⟨cell_of_row _ _ 0 _ _ _ h6, frozen_of_row _ _ 0 _ _ h6⟩
     rw [HE0.out]
     go_wp2_with (first
      | (go_at_call 20; (with_reducible refine HMK.out.mono ?_); rintro e w3 ⟨p3, c3, rfl, hs3, hb3⟩; have HS3 := hid hs3; have HB3 := hid hb3; clear hs3 hb3)
      | (go_at_call 22; (with_reducible refine (HRP.out p3 c3 _ (w3.heap.size + 1) (heap_newAt _ _ _ (by simp))).mono ?_); rintro e w5 ⟨g, rfl, h5, hg5, hb5⟩; have H5 := hid h5; have hb5' : Below w3.heap.size w3 w5 := (((Below.refl _ w3).alloc (Nat.le_refl _) _).alloc (by simp) _).trans (hb5.mono (by simp; omega)); have HB5 := hid (below_more hb5' HB3.out (Nat.le_refl _)); have HS5 := hid (SlAt.below HS3.out hb5'); clear h5 hg5 hb5 hb5')
      | (go_at_call 21; (with_reducible refine (HNE.out g p3 c3 w5 H5.out HS5.out).mono ?_); rintro e w6 hnt; have hnt2 := hnt.resolve_right (fun h => h.1 (HNN.out p3 c3)); obtain ⟨_, d, fp, rfl, hmm, hfp, hb6⟩ := hnt2; have HMM := hid hmm; have HFP := hid hfp; have HB6 := hid hb6; obtain ⟨y0, yf⟩ := HC6.out w6 (HB5.out.trans (hb6.mono HB5.out.size)); clear hnt hmm hfp hb6))
     refine bodyPost_ret (v := .tuple #[.pointer (some ⟨q + 3, 0, none⟩), .int .i64 0]) (by simp [results, Tryz.results6, go_sem]) rfl ?_
     rw [HE0.out]
     exact HFIN.out w5 w6 p3 c3 d fp HB5.out HB6.out HMM.out HFP.out
theorem newT_any (wp : Option Addr) (wc : Nat) (zs : List AkR) (w : World) (hA : AskIs w wp wc zs) (n : Int) (K : Wk) (hK : ¬ (n < 1 ∨ 256 < n ∨ zs.length < 1 ∨ 64 < zs.length) → NewK zs n K) :
  Calls Tryz.prog 6 #[.int .i64 n, .slice wp zs.length wc] w (NewTT w n K (newTE n (lists zs))) := by
 by_cases h : n < 1 ∨ 256 < n ∨ zs.length < 1 ∨ 64 < zs.length
 ·have e : newTE n (lists zs) = 1 := by unfold newTE; rw [if_pos (by simpa [lists] using h)]
  rw [e]
  exact newT_arg wp wc zs w hA n K h
 ·exact newT_walk wp wc zs w hA n K (hK h) h
end Go.Proofs.YtabkmdhkfbcldaaGreat
namespace Go.Proofs.YtabkmdhkfbcldaaGreat
open Go.RowKit
variable {w w' : World}
set_option maxRecDepth 20000 in
theorem run_neq_cl (a b : Cl) (w : World) : (binOp .neq 35 (.agg #[.int .i64 a.w, .int .i64 a.kind, .string a.key, .int .i64 a.value, .int .i64 a.fr, .int .i64 a.to, .int .i64 a.ans, .int .i64 a.err]) (.agg #[.int .i64 b.w, .int .i64 b.kind, .string b.key, .int .i64 b.value, .int .i64 b.fr, .int .i64 b.to, .int .i64 b.ans, .int .i64 b.err])).run Tryz.prog w = .ok (.bool (decide (a ≠ b))) w := by
 obtain ⟨a1, a2, a3, a4, a5, a6, a7, a8⟩ := a
 obtain ⟨b1, b2, b3, b4, b5, b6, b7, b8⟩ := b
 by_cases h1 : a1 = b1
 ·by_cases h2 : a2 = b2
  ·by_cases h3 : a3 = b3
   ·by_cases h4 : a4 = b4
    ·by_cases h5 : a5 = b5
     ·by_cases h6 : a6 = b6
      ·by_cases h7 : a7 = b7
       ·by_cases h8 : a8 = b8
        ·subst h1 h2 h3 h4 h5 h6 h7 h8
         go_simp
        ·subst h1 h2 h3 h4 h5 h6 h7
         have he : (a8 == b8) = false := by simp [h8]
         go_simp
       ·subst h1 h2 h3 h4 h5 h6
        have he : (a7 == b7) = false := by simp [h7]
        go_simp
      ·subst h1 h2 h3 h4 h5
       have he : (a6 == b6) = false := by simp [h6]
       go_simp
     ·subst h1 h2 h3 h4
      have he : (a5 == b5) = false := by simp [h5]
      go_simp
    ·subst h1 h2 h3
     have he : (a4 == b4) = false := by simp [h4]
     go_simp
   ·subst h1 h2
    have he := strNe h3
    go_simp
  ·subst h1
   have he : (a2 == b2) = false := by simp [h2]
   go_simp
 ·have he : (a1 == b1) = false := by simp [h1]
  go_simp
theorem cl_at {w : World} {b o : Nat} {ys : List Cl} (h : Row w (some ⟨b, o, none⟩) (ys.flatMap Cl.cells)) (k : Nat) (hk : k < ys.length) (j : Nat) (hj : j < 8) :
  w.cell? ⟨b, o + k * 8 + j, none⟩ = (ys[k].cells)[j]? := by
 have hlen := flat_len Cl.cells 8 (fun _ => rfl) ys
 have hlt : 8 * k + j < (ys.flatMap Cl.cells).length := by rw [hlen]; omega
 rw [show o + k * 8 + j = o + (8 * k + j) by omega, h.cell (8 * k + j) hlt, ← List.getElem?_eq_getElem hlt]
 exact flat_get Cl.cells 8 (fun _ => rfl) ys k hk j hj
set_option maxRecDepth 20000 in
set_option maxHeartbeats 2000000 in
theorem eqC_any (p q : Option Addr) (c d : Nat) (l m : List Cl) (w : World) (h1 : Row w p (l.flatMap Cl.cells)) (h2 : Row w q (m.flatMap Cl.cells)) (hl : l.length ≤ 1000000) (hm : m.length ≤ 1000000) :
  Calls Tryz.prog 18 #[.slice p l.length c, .slice q m.length d] w fun e w' => e = .returned (.bool (decide (l = m))) ∧ ∃ q, w' = w.drewN q := by
 by_cases hlm : l.length = m.length
 ·have HM := hid hlm
  rw [← hlm]
  have hne : (((l.length : Nat) : Int) != (l.length : Int)) = false := by simp
  clear hlm
  have HL1 := hid (flat_len Cl.cells 8 (fun _ => rfl) l)
  have HL2 := hid (flat_len Cl.cells 8 (fun _ => rfl) m)
  go_enter Tryz.func18, Tryz.ntmps18
  go_wp2
  go_loopw [13] (fun i wr => ∃ k : Nat, k ≤ l.length ∧ i = .int .i64 k ∧ l.take k = m.take k ∧ ∃ q, wr = w.drewN q) (fun i _ => l.length - (intOf i).toNat)
  case atStart => exact ⟨0, Nat.zero_le _, rfl, by simp, 0, rfl⟩
  case round =>
   obtain ⟨k, hk, rfl, htk, qd, rfl⟩ := hrel
   have HT := hid htk
   clear htk
   by_cases hlt : k < l.length
   ·have hlt2 : k < m.length := by rw [← HM.out]; exact hlt
    have hkn : ¬ l.length ≤ k := by omega
    obtain ⟨b1, o1, rfl, hb1, hz1⟩ := h1.at (by rw [HL1.out]; omega)
    obtain ⟨b2, o2, rfl, hb2, hz2⟩ := h2.at (by rw [HL2.out]; omega)
    clear hz1 hz2
    have x0 := cl_at h1 k hlt 0 (by omega)
    have x1 := cl_at h1 k hlt 1 (by omega)
    have x2 := cl_at h1 k hlt 2 (by omega)
    have x3 := cl_at h1 k hlt 3 (by omega)
    have x4 := cl_at h1 k hlt 4 (by omega)
    have x5 := cl_at h1 k hlt 5 (by omega)
    have x6 := cl_at h1 k hlt 6 (by omega)
    have x7 := cl_at h1 k hlt 7 (by omega)
    have y0 := cl_at h2 k hlt2 0 (by omega)
    have y1 := cl_at h2 k hlt2 1 (by omega)
    have y2 := cl_at h2 k hlt2 2 (by omega)
    have y3 := cl_at h2 k hlt2 3 (by omega)
    have y4 := cl_at h2 k hlt2 4 (by omega)
    have y5 := cl_at h2 k hlt2 5 (by omega)
    have y6 := cl_at h2 k hlt2 6 (by omega)
    have y7 := cl_at h2 k hlt2 7 (by omega)
    have HA : Hid (l.take (k + 1) = l.take k ++ [l[k]]) := take_succ l k hlt
    have HB : Hid (m.take (k + 1) = m.take k ++ [m[k]]) := take_succ m k hlt2
    have HN : Hid (l[k] ≠ m[k] → decide (l = m) = false) := fun h => by
     rw [decide_eq_false_iff_not]
     intro e
     subst e
     exact h rfl
    have HR := hid (run_neq_cl l[k] m[k])
    have HW1 := hid h1
    have HW2 := hid h2
    have hrun := HR.out
    generalize l[k] = a at *
    generalize m[k] = b at *
    unfold Cl.cells at x0 x1 x2 x3 x4 x5 x6 x7 y0 y1 y2 y3 y4 y5 y6 y7
    simp only [Nat.add_zero, List.getElem?_cons_zero, List.getElem?_cons_succ] at x0 x1 x2 x3 x4 x5 x6 x7 y0 y1 y2 y3 y4 y5 y6 y7
    obtain ⟨bo, hbo⟩ : ∃ bo, bo = decide (a ≠ b) := ⟨_, rfl⟩
    rw [← hbo] at hrun
    have HBO := hid hbo
    clear hbo hlt2 h1 h2 HR HW1 HW2
    go_upto_region 6 with (fail)
    go_quiet (fail)
    cases bo with
    | true =>
     have HF : Hid (decide (l = m) = false) := HN.out (of_decide_eq_true HBO.out.symm)
     go_wp2
     go_ret
     exact ⟨ret_bool (by rw [HF.out]), _, by first | rfl | exact World.drewN_drewN _ _ _⟩
    | false =>
     have hab : a = b := Classical.byContradiction fun h => by have := HBO.out; simp [h] at this
     have HE : Hid (l.take (k + 1) = m.take (k + 1)) := by unfold Hid; rw [HA.out, HB.out, HT.out, hab]
     clear hab
     go_wp2
     refine ⟨⟨k + 1, by omega, by go_num, HE.out, _, by first | rfl | exact World.drewN_drewN _ _ _⟩, by simp [intOf]; omega⟩
   ·have hke : k = l.length := by omega
    subst hke
    have HF : Hid (decide (l = m) = true) := decide_eq_true (by
     have := HT.out
     rw [List.take_of_length_le (Nat.le_refl _), List.take_of_length_le (by have := HM.out; omega)] at this
     exact this)
    go_wp2
    go_ret
    exact ⟨ret_bool (by rw [HF.out]), _, by first | rfl | exact World.drewN_drewN _ _ _⟩
 ·have hf : decide (l = m) = false := decide_eq_false (fun e => hlm (by rw [e]))
  have hne : (((l.length : Nat) : Int) != (m.length : Int)) = true := by simp; omega
  rw [hf]
  clear hf
  go_enter Tryz.func18, Tryz.ntmps18
  go_wp2
  go_ret
  exact ⟨rfl, 0, rfl⟩
end Go.Proofs.YtabkmdhkfbcldaaGreat
namespace Go.Proofs.YtabkmdhkfbcldaaGreat
open Go.RowKit
variable {w w' : World} {K : Wk}
theorem start_ok (K : Wk) : ShOk K (Sh.start K) := by
 have hh : ∀ v, ((Sh.start K).hand v) = hn0 := fun v => getD_rep _ _ _
 have hn : ∀ v, (Sh.start K).next.getD v 0 = 0 := fun v => getD_rep _ _ _
 refine ⟨by simp [Sh.start], by simp [Sh.start], by simp [Sh.start], fun v _ => ⟨by rw [hn]; omega, ?_, ?_, ?_, ?_, ?_, ?_⟩, by simp [Sh.start], fun r hr => (by cases hr), Nat.le_refl _, fun i _ => .inl (getD_rep _ _ _)⟩ <;> rw [hh] <;> simp [hn0]
theorem NewTT.ok {n : Int} {e : Ending} (h : NewTT w n K 0 e w') : ∃ t B, e = .returned (.tuple #[.pointer (some ⟨t, 0, none⟩), .int .i64 0]) ∧ TOk w' w.heap.size t K (Sh.start K) B ∧ (∀ b, B.fp K t b → w.heap.size ≤ b) ∧ Below w.heap.size w w' := by
 rcases h with ⟨h0, _⟩ | ⟨_, t, B, he, hT, hp, hf, hb⟩
 ·exact absurd rfl h0
 ·exact ⟨t, B, he, ⟨hT, start_ok K, fun v hv => (by rw [hp v] at hv; cases hv), fun v hv => (by rw [hp v] at hv; cases hv)⟩, hf, hb⟩
def keyA : ByteArray := ⟨#[97]⟩
def ofK (n : Nat) (k : ByteArray) : Nat := (ofF k n).toNat
theorem ofK_is (n : Nat) (h : 1 ≤ n ∧ n ≤ 256) (k : ByteArray) : (ofK n k : Int) = ofF k (n : Nat) := by
 unfold ofK ofF
 rw [if_neg (by omega)]
 have h3 := of_facts (h := hashF k) (n := (n : Nat)) (hash_in k k.size) (by omega) (by omega)
 omega
def K1 : Wk := ⟨[[⟨1, keyA, 5⟩]], 4, ofK 4⟩
theorem K1_ok : WkOk K1 := ⟨by decide, by decide, fun k => ofK_is 4 (by omega) k, fun w a ha => by
 have : a = ⟨1, keyA, 5⟩ := by
  unfold Wk.own K1 at ha
  match w, ha with
  | 0, ha => simpa using ha
  | w + 1, ha => simp [List.getD_eq_getElem?_getD] at ha
 rw [this]; decide⟩
theorem own_le (K : Wk) (m : Nat) (h : ∀ l ∈ K.work, l.length ≤ m) (k : Nat) : (K.own k).length ≤ m := by
 unfold Wk.own
 rw [List.getD_eq_getElem?_getD]
 cases e : K.work[k]? with
 | none => simp
 | some l => exact h l (List.mem_of_getElem? e)
def st1 : Nat → Sh
 | 0 => Sh.start K1
 | k + 1 => (st1 k).stepN K1 0
theorem st1_steps : ∀ k, (st1 k).steps ≤ k
 | 0 => Nat.le_refl _
 | k + 1 => by
  have ih := st1_steps k
  show ((st1 k).stepN K1 0).steps ≤ k + 1
  unfold Sh.stepN
  split
  ·show (st1 k).steps + 1 ≤ k + 1; omega
  ·omega
theorem of_a : ofK 4 keyA = 0 := by decide +kernel
theorem st1_end : (st1 5).calls = [⟨0, 1, keyA, 5, 0, 5, 0, 0⟩] ∧ (st1 5).doneI K1 0 = true ∧ (st1 5).get keyA = some 5 := by
 have e1 : st1 1 = ⟨[0, -1, -1, -1], [], [0], [⟨1, false, 0⟩], [⟨0, 1, keyA, 5, 0, -1, 0, 0⟩], 1⟩ := by
  show (Sh.start K1).stepN K1 0 = _
  have hc : (Sh.start K1).canN K1 0 = true := by decide +kernel
  rw [step_is hc]
  have ho : K1.of ((Sh.start K1).ask K1 0).key = 0 := of_a
  simp only [Sh.body, Sh.setL, Sh.setH]
  show Sh.mk _ _ _ _ _ _ = _
  rw [ho]; rfl
 have e2 : st1 2 = ⟨[0, -1, -1, -1], [], [0], [⟨2, false, 0⟩], [⟨0, 1, keyA, 5, 0, -1, 0, 0⟩], 2⟩ := by
  show (st1 1).stepN K1 0 = _
  rw [e1]; rfl
 have e3 : st1 3 = ⟨[0, -1, -1, -1], [⟨keyA, 5, false⟩], [0], [⟨3, false, 0⟩], [⟨0, 1, keyA, 5, 0, -1, 0, 0⟩], 3⟩ := by
  show (st1 2).stepN K1 0 = _
  rw [e2]; rfl
 have e4 : st1 4 = ⟨[0, -1, -1, -1], [⟨keyA, 5, true⟩], [0], [⟨4, false, 0⟩], [⟨0, 1, keyA, 5, 0, -1, 0, 0⟩], 4⟩ := by
  show (st1 3).stepN K1 0 = _
  rw [e3]; rfl
 have e5 : st1 5 = ⟨[-1, -1, -1, -1], [⟨keyA, 5, true⟩], [1], [hn0], [⟨0, 1, keyA, 5, 0, 5, 0, 0⟩], 5⟩ := by
  show (st1 4).stepN K1 0 = _
  rw [e4]
  have ho : K1.of keyA = 0 := of_a
  have hc : (⟨[0, -1, -1, -1], [⟨keyA, 5, true⟩], [0], [⟨4, false, 0⟩], [⟨0, 1, keyA, 5, 0, -1, 0, 0⟩], 4⟩ : Sh).canN K1 0 = true := rfl
  rw [step_is hc]
  show Sh.mk ([0, -1, -1, -1].set (K1.of keyA) (-1)) _ _ _ _ _ = _
  rw [ho]; rfl
 rw [e5]
 exact ⟨rfl, rfl, rfl⟩
end Go.Proofs.YtabkmdhkfbcldaaGreat
namespace Go.Proofs.YtabkmdhkfbcldaaGreat
open Go.RowKit
variable {w w' : World}
theorem hash_e : hashF (⟨#[]⟩ : ByteArray) = 14695981039346656037 := by decide +kernel
theorem hash_a : hashF (⟨#[97]⟩ : ByteArray) = 12638187200555641996 := by decide +kernel
set_option maxRecDepth 20000 in
set_option maxHeartbeats 2000000 in
theorem begun_any (w : World) : Calls Tryz.prog 4 #[] w fun e w' => e = .returned (.bool true) ∧ Below w.heap.size w w' := by
 have hA : AskIs ((w.alloc (.cells #[.int .i64 1, .string ⟨#[97]⟩, .int .i64 5] 46)).alloc (.cells #[.slice (some ⟨w.heap.size, 0, none⟩) 1 1] 47)) (some ⟨w.heap.size + 1, 0, none⟩) 1 [(some ⟨w.heap.size, 0, none⟩, 1, [⟨1, ⟨#[97]⟩, 5⟩])] := by
  refine ⟨row_newAt _ [.slice (some ⟨w.heap.size, 0, none⟩) 1 1] _ _ (by simp), ⟨by simp, by unfold maxLen; omega⟩, fun z hz => ?_⟩
  simp at hz
  subst hz
  exact ⟨fun h => (by cases h), (row_newAt w [.int .i64 1, .string ⟨#[97]⟩, .int .i64 5] _ _ rfl).alloc _, by simp, by unfold maxLen; dsimp only; omega⟩
 have HN : Hid (Calls Tryz.prog 6 #[.int .i64 4, .slice (some ⟨w.heap.size + 1, 0, none⟩) 1 1] ((w.alloc (.cells #[.int .i64 1, .string ⟨#[97]⟩, .int .i64 5] 46)).alloc (.cells #[.slice (some ⟨w.heap.size, 0, none⟩) 1 1] 47)) (NewTT ((w.alloc (.cells #[.int .i64 1, .string ⟨#[97]⟩, .int .i64 5] 46)).alloc (.cells #[.slice (some ⟨w.heap.size, 0, none⟩) 1 1] 47)) 4 K1 0)) :=
  newT_any _ _ _ _ hA 4 K1 (fun _ => ⟨rfl, rfl⟩)
 have HB0 : Hid (Below w.heap.size w ((w.alloc (.cells #[.int .i64 1, .string ⟨#[97]⟩, .int .i64 5] 46)).alloc (.cells #[.slice (some ⟨w.heap.size, 0, none⟩) 1 1] 47))) := ((Below.refl _ _).alloc (Nat.le_refl _) _).alloc (by simp) _
 clear hA
 go_enter Tryz.func4, Tryz.ntmps4
 go_wp2_with (go_at_call 6; (with_reducible refine HN.out.mono ?_); rintro e w1 hnt; obtain ⟨t, B, rfl, hT, hfp, hb1⟩ := hnt.ok; have HT := hid hT; have HFP := hid hfp; have HB1 := hid (HB0.out.trans (hb1.mono HB0.out.size)); have hz1 := hb1.size; clear hnt hT hfp hb1)
 obtain ⟨bs, hbs⟩ : ∃ bs, bs = ((w.alloc (.cells #[.int .i64 1, .string ⟨#[97]⟩, .int .i64 5] 46)).alloc (.cells #[.slice (some ⟨w.heap.size, 0, none⟩) 1 1] 47)).heap.size := ⟨_, rfl⟩
 rw [← hbs] at HT
 have hbw : w.heap.size ≤ bs := by rw [hbs]; simp; omega
 clear hbs HN HB0 HFP
 go_loopw [18] (fun i wr => ∃ k : Nat, k ≤ 5 ∧ i = .int .i64 k ∧ ∃ B, TOk wr bs t K1 (st1 k) B ∧ Below w.heap.size w wr) (fun i _ => 5 - (intOf i).toNat)
 case atStart => exact ⟨0, by omega, rfl, B, HT.out, HB1.out⟩
 case round =>
  obtain ⟨k, hk, rfl, B2, hT2, hb2⟩ := hrel
  rename World => wx
  have HT2 := hid hT2
  have HB2 := hid hb2
  clear hT2 hb2
  by_cases hlt : k < 5
  ·have hltI : (k : Int) < 5 := by omega
   have HS := hid (step_any HT2.out K1_ok 0 (by have := st1_steps k; omega) (fun k => Nat.le_trans (own_le K1 1 (by decide) k) (by omega)))
   have e0 : (st1 k).stepI K1 0 = st1 (k + 1) := rfl
   rw [e0] at HS
   go_wp2_with (go_at_call 7; (with_reducible refine HS.out.mono ?_); rintro e w3 ⟨rfl, B3, hT3, -, -, hl3⟩; have HT3 := hid hT3; have HL3 := hid hl3; clear hT3 hl3)
   exact ⟨⟨k + 1, by omega, by go_num, B3, HT3.out, HB2.out.trans (HL3.out.mono hbw)⟩, by simp [intOf]; omega⟩
  ·have hke : k = 5 := by omega
   subst hke
   obtain ⟨hc, hd, hg⟩ := st1_end
   have HG : Hid (Calls Tryz.prog 15 #[.pointer (some ⟨t, 0, none⟩), .string ⟨#[97]⟩] wx fun e w' => e = .returned (.tuple #[.int .i64 5, .bool true]) ∧ w' = wx) := by
    have := get_any HT2.out.is keyA
    rw [hg] at this
    exact this.mono fun _ _ h => ⟨h.1, h.2.symm⟩
   have HH1 := hid (fun w1 : World => hash_any (⟨#[]⟩ : ByteArray) w1 (by decide))
   have HH2 := hid (fun w1 : World => hash_any (⟨#[97]⟩ : ByteArray) w1 (by decide))
   rw [hash_e] at HH1
   rw [hash_a] at HH2
   have HD : Hid (Calls Tryz.prog 17 #[.pointer (some ⟨t, 0, none⟩), .int .i64 0] wx fun e w' => e = .returned (.bool true) ∧ ∃ q, w' = wx.drewN q) := by
    have := done_any HT2.out.is 0
    rw [hd] at this
    exact this
   have HHI : Hid (∀ q, Calls Tryz.prog 10 #[.pointer (some ⟨t, 0, none⟩)] (wx.drewN q) (CloneC [⟨0, 1, ⟨#[97]⟩, 5, 0, 5, 0, 0⟩] (wx.drewN q))) := fun q => by
    have := history_any (HT2.out.is.below (below_drewN (Below.refl _ _) q)) (by rw [hc]; decide)
    rw [hc] at this
    exact this
   unfold CloneC at HHI
   have HEQ : Hid (∀ (w4 : World) (p4 : Option Addr) (c4 : Nat), Row w4 p4 ([(⟨0, 1, ⟨#[97]⟩, 5, 0, 5, 0, 0⟩ : Cl)].flatMap Cl.cells) → Calls Tryz.prog 18 #[.slice p4 1 c4, .slice (some ⟨w4.heap.size, 0, none⟩) 1 1] (w4.alloc (.cells #[.int .i64 0, .int .i64 1, .string ⟨#[97]⟩, .int .i64 5, .int .i64 0, .int .i64 5, .int .i64 0, .int .i64 0] 35)) fun e w' => e = .returned (.bool true) ∧ ∃ q, w' = (w4.alloc (.cells #[.int .i64 0, .int .i64 1, .string ⟨#[97]⟩, .int .i64 5, .int .i64 0, .int .i64 5, .int .i64 0, .int .i64 0] 35)).drewN q) := fun w4 p4 c4 hr => by
    have := eqC_any p4 (some ⟨w4.heap.size, 0, none⟩) c4 1 [⟨0, 1, ⟨#[97]⟩, 5, 0, 5, 0, 0⟩] [⟨0, 1, ⟨#[97]⟩, 5, 0, 5, 0, 0⟩] _ (hr.alloc _) (row_newAt w4 (Cl.cells ⟨0, 1, ⟨#[97]⟩, 5, 0, 5, 0, 0⟩) 35 _ rfl) (by decide) (by decide)
    rw [decide_eq_true rfl] at this
    exact this
   clear hc hd hg
   go_wp2_with (first
    | (go_at_call 15; (with_reducible refine HG.out.mono ?_); rintro e w3 ⟨rfl, hw3⟩; replace hw3 := hw3.symm; subst hw3)
    | (go_at_call 16; (first | (with_reducible refine (HH1.out _).mono ?_) | (with_reducible refine (HH2.out _).mono ?_)); rintro e w3 ⟨rfl, hw3⟩; replace hw3 := hw3.symm; subst hw3)
    | (go_at_call 17; (with_reducible refine HD.out.mono ?_); rintro e w3 ⟨rfl, qd, rfl⟩)
    | (go_at_call 10; (with_reducible refine (HHI.out _).mono ?_); rintro e w4 ⟨v4, rfl, ho4, hb4⟩; obtain ⟨p4, c4, rfl, hr4⟩ := own_shape ho4; have HR4 := hid hr4; have HB4 := hid hb4; clear ho4 hr4 hb4)
    | (go_at_call 18; (with_reducible refine (HEQ.out w4 p4 c4 HR4.out).mono ?_); rintro e w5 ⟨rfl, qe, rfl⟩))
   go_ret
   exact ⟨rfl, below_drewN ((HB2.out.trans ((below_drewN (Below.refl _ wx) _).trans (HB4.out.mono (Nat.le_refl _)) |>.mono HB2.out.size)).alloc (by have h1 := HB2.out.size; have h2 := HB4.out.size; simp at h2; omega) _) _⟩
end Go.Proofs.YtabkmdhkfbcldaaGreat
namespace Go.Proofs.YtabkmdhkfbcldaaGreat
open Go.RowKit
variable {w w' : World}
theorem min_cast (a b : Nat) : ∃ n : Nat, n = min a b ∧ min (a : Int) (b : Int) = n ∧ n ≤ a ∧ n ≤ b := ⟨min a b, rfl, by omega, by omega, by omega⟩
def capTo (zs : List AkR) : Nat → Nat
 | 0 => 0
 | k + 1 => min (capTo zs k + (zs.getD k (none, 0, [])).2.2.length) 4096
theorem capTo_le (zs : List AkR) : ∀ k, capTo zs k ≤ 4096
 | 0 => by simp [capTo]
 | k + 1 => by simp only [capTo]; omega
structure FewOk (zs : List AkR) (p : Nat) : Prop where
 n : capTo zs (min zs.length 70) ≤ 60 ∨ 1024 < capTo zs (min zs.length 70)
 p : p ≤ 2000
 k : ∀ i, i < min zs.length 70 → ∀ a ∈ (zs.getD i (none, 0, [])).2.2.take 100, a.key.size ≤ 600
theorem FewOk.few {zs : List AkR} {p : Nat} (h : FewOk zs p) {n : Int} (hn : newTE n (lists zs) = 0) : totA (lists zs) ≤ 60 ∧ (1 ≤ n ∧ n ≤ 256) ∧ (1 ≤ zs.length ∧ zs.length ≤ 64) ∧ (∀ l ∈ lists zs, l.length ≤ 60) ∧ (∀ l ∈ lists zs, ∀ a ∈ l, a.key.size ≤ 600) ∧ (∀ l ∈ lists zs, l.any akBad = false) := by
 have hl : (lists zs).length = zs.length := by simp [lists]
 unfold newTE at hn
 rw [hl] at hn
 split at hn
 ·cases hn
 next h1 =>
 split at hn
 ·cases hn
 next h2 =>
 split at hn
 ·cases hn
 next h3 =>
 have hcap : ∀ k, k ≤ zs.length → capTo zs k = totA ((lists zs).take k) := by
  intro k
  induction k with
  | zero => intro _; simp [capTo, totA]
  | succ k ih =>
   intro hk
   have h4 := totA_succ (lists zs) k (by rw [hl]; omega)
   have h5 := totA_take (lists zs) (k + 1)
   have h6 : (zs.getD k (none, 0, [])).2.2 = (lists zs)[k]'(by rw [hl]; omega) := by simp [lists, List.getD_eq_getElem?_getD, show k < zs.length by omega]
   rw [capTo, ih (by omega), h6, ← h4]
   omega
 have hmin : min zs.length 70 = zs.length := by omega
 have hN := h.n
 rw [hmin, hcap _ (Nat.le_refl _), List.take_of_length_le (by rw [hl]; exact Nat.le_refl _)] at hN
 have ht : totA (lists zs) ≤ 60 := by omega
 have hle : ∀ l ∈ lists zs, l.length ≤ 60 := fun l hm => Nat.le_trans (totA_mem _ l hm) ht
 refine ⟨ht, by omega, by omega, hle, fun l hm a ha => ?_, fun l hm => ?_⟩
 ·obtain ⟨i, hi, rfl⟩ := List.getElem_of_mem hm
  have h7 := h.k i (by rw [hmin, ← hl]; exact hi) a
  have h6 : (zs.getD i (none, 0, [])).2.2 = (lists zs)[i] := by simp [lists, List.getD_eq_getElem?_getD, show i < zs.length by rw [← hl]; exact hi]
  rw [h6, List.take_of_length_le (by have := hle _ hm; omega)] at h7
  exact h7 ha
 ·rw [Bool.not_eq_true, List.any_eq_false] at h3
  have := h3 l hm
  simpa using this
def FewTell (zs : List AkR) (p : Nat) (w : World) (e : Ending) (w' : World) : Prop := ∃ b, e = .returned (.bool b) ∧ (b = true → FewOk zs p) ∧ Below w.heap.size w w'
set_option maxRecDepth 20000 in
set_option maxHeartbeats 4000000 in
theorem few_any (wp : Option Addr) (wc : Nat) (zs : List AkR) (hA : AskIs w wp wc zs) (hq : ∀ z ∈ zs, z.2.2.length ≤ 4398046511104 ∧ ∀ a ∈ z.2.2, a.key.size ≤ 140737488351232) (kp : Option Addr) (kc p : Nat) (hp : p ≤ kc) (hkc : kc ≤ maxLen) :
  Calls Tryz.prog 5 #[.slice wp zs.length wc, .slice kp p kc] w (FewTell zs p w) := by
 obtain ⟨m, hm, hmI, hm1, hm2⟩ := min_cast zs.length 70
 have hmI : min (zs.length : Int) 70 = m := hmI
 have HM := hid hm
 have hwc := hA.c
 unfold maxLen at hwc hkc
 obtain ⟨hwc1, hwc2⟩ := hwc
 have hm0 : (0 : Int) ≤ m := by omega
 have hmc : (m : Int) ≤ wc := by omega
 have hmc2 : m ≤ wc := by omega
 have HA := hid hA
 have HQ := hid hq
 clear hm hA hq
 go_enter Tryz.func5, Tryz.ntmps5
 go_upto_region 2 with (fail)
 go_cut [14, 15, 16] from 10 to 16 (fun s nn i wx => s = .slice wp m wc ∧ nn = .int .i64 m ∧ i = .int .i64 0 ∧ wx = w)
 case first =>
  go_wp2_with fail
  all_goals
   have hme := HM.out
   go_meet
   refine ⟨?_, ?_, ?_, ?_⟩ <;> first | rfl | (congr 1; omega)
 case rest =>
  obtain ⟨rfl, rfl, rfl, hwc⟩ := hcut
  rw [hwc]
  clear hwc
  go_wp2_with fail
  go_loopw [5, 16] (fun nv i wr => ∃ k : Nat, k ≤ m ∧ i = .int .i64 k ∧ nv = .int .i64 (capTo zs k : Nat) ∧ (∀ i, i < k → ∀ a ∈ (zs.getD i (none, 0, [])).2.2.take 100, a.key.size ≤ 600) ∧ Below w.heap.size w wr) (fun _ i _ => m - (intOf i).toNat)
  case atStart => exact ⟨0, by omega, rfl, rfl, fun i hi => (by omega), Below.refl _ _⟩
  case round =>
   rename World => wx
   obtain ⟨k, hk, rfl, rfl, hks, hbx⟩ := hrel
   have HKS := hid hks
   have HBX := hid hbx
   clear hks hbx
   have hcl := capTo_le zs k
   by_cases hlt : k < m
   ·have hkz : k < zs.length := by omega
    obtain ⟨b, o, rfl, hbl, hcell⟩ := akS_at HA.out (by omega)
    have hck := (HBX.out.cell (p := ⟨b, o + k, none⟩) hbl).trans (hcell k hkz)
    have HEX := hid (HA.out.each _ (List.getElem_mem hkz))
    have HQX := hid (HQ.out _ (List.getElem_mem hkz))
    have hgd : zs.getD k (none, 0, []) = zs[k] := by simp [List.getD_eq_getElem?_getD, hkz]
    have HSU : Hid (capTo zs (k + 1) = min (capTo zs k + zs[k].2.2.length) 4096) := by unfold Hid; rw [capTo, hgd]
    have HGD := hid hgd
    generalize zs[k] = z at *
    obtain ⟨zp, zc, l⟩ := z
    unfold akS at hck
    dsimp only at hck HEX HQX HSU
    have hlb := HQX.out.1
    clear hgd hcell
    have hlc := HEX.out.2.2
    unfold maxLen at hlc
    obtain ⟨hlc1, hlc2⟩ := hlc
    generalize capTo zs k = ck at *
    obtain ⟨s, hs, hsI, hs1, hs2⟩ := min_cast (ck + l.length) 4096
    have HS := hid hs
    have hsI' : min ((ck : Int) + l.length) 4096 = s := by have h := hsI; omega
    have hwr : IntKind.i64.wrap ((ck : Int) + (l.length : Nat)) = (ck : Int) + (l.length : Nat) := IntWalk.i64_in _ (by omega)
    obtain ⟨r, hr, hrI, hr1, hr2⟩ := min_cast l.length 100
    have hrI : min (l.length : Int) 100 = r := hrI
    have HR := hid hr
    have hr0 : (0 : Int) ≤ r := by omega
    have hrc : (r : Int) ≤ zc := by omega
    have hrc2 : r ≤ zc := by omega
    have HRW := hid (HEX.out.2.1.below HBX.out)
    clear hs hsI hr
    go_upto_region 5 with (fail)
    go_cut [5] from 20 to 24 (fun nv wx2 => nv = .int .i64 s ∧ wx2 = wx)
    case first =>
     go_wp2_with fail
     all_goals
      have hme := HS.out
      go_meet
      refine ⟨?_, ?_⟩ <;> first | rfl | (congr 1; omega)
    case rest =>
     obtain ⟨rfl, hwc⟩ := hcut
     rw [hwc]
     clear hwc
     go_upto_region 6 with (fail)
     go_cut [29, 30, 31] from 25 to 31 (fun s2 nn i wx2 => s2 = .slice zp r zc ∧ nn = .int .i64 r ∧ i = .int .i64 0 ∧ wx2 = wx)
     case first =>
      go_wp2_with fail
      all_goals
       have hme := HR.out
       go_meet
       refine ⟨?_, ?_, ?_, ?_⟩ <;> first | rfl | (congr 1; omega)
     case rest =>
      obtain ⟨rfl, rfl, rfl, hwc⟩ := hcut
      rw [hwc]
      clear hwc
      go_wp2_with fail
      go_loopw [31] (fun i wy => ∃ j : Nat, j ≤ r ∧ i = .int .i64 j ∧ (∀ a ∈ l.take j, a.key.size ≤ 600) ∧ Below wx.heap.size wx wy) (fun i _ => r - (intOf i).toNat)
      case atStart => exact ⟨0, by omega, rfl, fun a ha => (by simp at ha), Below.refl _ _⟩
      case round =>
       rename World => wy
       obtain ⟨j, hj, rfl, hkj, hby⟩ := hrel
       have HKJ := hid hkj
       have HBY := hid hby
       clear hkj hby
       by_cases hjl : j < r
       ·have hjr : j < l.length := by omega
        obtain ⟨bb, oo, rfl, hbb, -⟩ := HEX.out.2.1.at (by have := flat_len Ak.cells 3 (fun _ => rfl) l; omega)
        obtain ⟨r0, r1, r2⟩ := ak_atR (HRW.out.below HBY.out) j hjr
        have hqa := HQX.out.2 _ (List.getElem_mem hjr)
        have HTK : Hid (l.take (j + 1) = l.take j ++ [l[j]]) := take_succ l j hjr
        generalize l[j] = ak at *
        obtain ⟨kd, ky, av⟩ := ak
        dsimp only at r0 r1 r2 hqa
        by_cases hbig : 600 < ky.size
        ·have hbI : (600 : Int) < ky.size := by omega
         go_wp2_with fail
         go_ret
         have hb := HBX.out.trans (HBY.out.mono HBX.out.size)
         exact ⟨false, rfl, fun h => (by cases h), hb.alloc hb.size _⟩
        ·have hbI : ¬ (600 : Int) < ky.size := by omega
         have HNX : Hid (∀ a ∈ l.take (j + 1), a.key.size ≤ 600) := fun a ha => by
          rw [HTK.out] at ha
          rcases List.mem_append.1 ha with ha | ha
          ·exact HKJ.out a ha
          ·simp at ha; subst ha; show ky.size ≤ 600; omega
         go_wp2_with fail
         exact ⟨⟨j + 1, by omega, by go_num, HNX.out, HBY.out.alloc HBY.out.size _⟩, by simp [intOf]; omega⟩
       ·have hje : j = r := by omega
        subst hje
        have HNK : Hid (∀ i, i < k + 1 → ∀ a ∈ (zs.getD i (none, 0, [])).2.2.take 100, a.key.size ≤ 600) := fun i hi a ha => by
         by_cases e : i = k
         ·subst e
          rw [HGD.out] at ha
          refine HKJ.out a ?_
          have h1 := HR.out
          have : l.take 100 = l.take j := by
           by_cases h2 : l.length ≤ 100
           ·rw [List.take_of_length_le h2, List.take_of_length_le (by omega)]
           ·have : j = 100 := by omega
            rw [this]
          rw [← this]; exact ha
         ·exact HKS.out i (by omega) a ha
        go_wp2_with fail
        refine ⟨⟨k + 1, by omega, by go_num, ?_, HNK.out, HBX.out.trans (HBY.out.mono HBX.out.size)⟩, by simp [intOf]; omega⟩
        rw [HSU.out, ← HS.out]
   ·have hke : k = m := by omega
    subst hke
    have HF : Hid ((capTo zs k ≤ 60 ∨ 1024 < capTo zs k) → p ≤ 2000 → FewOk zs p) := fun h1 h2 => ⟨by rw [← HM.out]; exact h1, h2, by rw [← HM.out]; exact HKS.out⟩
    generalize capTo zs k = N at *
    have hpI : (p : Int) ≤ 9223372036854775807 := by omega
    go_wp2_with fail
    all_goals (go_ret; refine ⟨_, rfl, fun hb => ?_, HBX.out⟩; simp at hb; try (exact HF.out (by omega) (by omega)))
end Go.Proofs.YtabkmdhkfbcldaaGreat
namespace Go.Proofs.YtabkmdhkfbcldaaGreat
open Go.RowKit
def Sh.left (K : Wk) (S : Sh) (w : Nat) : Nat := 6 * ((K.own w).length - S.next.getD w 0) - (S.hand w).at_
def Sh.leftAll (K : Wk) (S : Sh) : Nat := ((List.range K.work.length).map (S.left K)).sum
variable {K : Wk} {S : Sh}
theorem sum_less (f g : Nat → Nat) (w : Nat) (h : ∀ v, v ≠ w → g v = f v) (hw : g w + 1 ≤ f w) : ∀ n, w < n → ((List.range n).map g).sum + 1 ≤ ((List.range n).map f).sum
 | 0, hn => by omega
 | n + 1, hn => by
  rw [List.range_succ, List.map_append, List.map_append, List.sum_append, List.sum_append]
  simp only [List.map_cons, List.map_nil, List.sum_cons, List.sum_nil]
  by_cases e : w = n
  ·subst e
   have : (List.range w).map g = (List.range w).map f := List.map_congr_left fun v hv => h v (by have := List.mem_range.1 hv; omega)
   rw [this]; omega
  ·have := sum_less f g w h hw n (by omega)
   rw [h n (fun e2 => e e2.symm)]; omega
theorem sum_own (l : List (List Ak)) : ((List.range l.length).map (fun w => 6 * (l.getD w []).length)).sum = 6 * totA l := by
 have e : (List.range l.length).map (fun w => 6 * (l.getD w []).length) = l.map (fun x => 6 * x.length) := List.ext_getElem (by simp) fun i h1 h2 => by
  have hi : i < l.length := by simpa using h1
  simp [List.getD_eq_getElem?_getD, hi]
 rw [e]
 clear e
 unfold totA
 induction l with
 | nil => rfl
 | cons x r ih => simp only [List.map_cons, List.sum_cons, ih]; omega
theorem start_left (K : Wk) : (Sh.start K).leftAll K = 6 * totA K.work := by
 rw [← sum_own]
 unfold Sh.leftAll
 congr 1
 refine List.map_congr_left fun w _ => ?_
 unfold Sh.left Wk.own
 have h1 : (Sh.start K).next.getD w 0 = 0 := getD_rep _ _ _
 have h2 : (Sh.start K).hand w = hn0 := getD_rep _ _ _
 rw [h1, h2]
 simp [hn0]
theorem left_self (h : ShOk K S) {w : Nat} (hw : w < K.work.length) (hc : S.canN K w = true) : (S.stepN K w).left K w + 1 ≤ S.left K w := by
 have hnx := h.nx hw (can_facts hc).1
 have H := h.each w hw
 have hnl : w < S.next.length := by rw [h.nxl]; exact hw
 have hhl : w < S.hands.length := by rw [h.hnl]; exact hw
 have h5 : (S.hand w).at_ ≤ 5 := by
  by_cases h0 : (S.hand w).at_ = 0
  ·omega
  ·exact (H.inh h0).2.2
 have key : ∀ (S' : Sh) (x : Hn) (a : Nat), S'.hands = S.hands.set w x → S'.next = S.next → a + 1 ≤ x.at_ → x.at_ ≤ 5 → 6 * ((K.own w).length - S'.next.getD w 0) - (S'.hand w).at_ + 1 ≤ 6 * ((K.own w).length - S.next.getD w 0) - a := fun S' x a e1 e2 h1 h2 => by
  have e3 : S'.hand w = x := by unfold Sh.hand; rw [e1, getD_set _ _ hhl, if_pos rfl]
  rw [e2, e3]; omega
 have kend : ∀ (S' : Sh) (a : Nat), S'.hands = S.hands.set w hn0 → S'.next = S.next.set w (S.next.getD w 0 + 1) → a ≤ 5 → 6 * ((K.own w).length - S'.next.getD w 0) - (S'.hand w).at_ + 1 ≤ 6 * ((K.own w).length - S.next.getD w 0) - a := fun S' a e1 e2 h1 => by
  have e3 : S'.hand w = hn0 := by unfold Sh.hand; rw [e1, getD_set _ _ hhl, if_pos rfl]
  rw [e2, e3, getD_set _ _ hnl, if_pos rfl]
  show 6 * ((K.own w).length - (S.next.getD w 0 + 1)) - 0 + 1 ≤ _
  omega
 rw [step_is hc]
 unfold Sh.left
 rcases (show (S.hand w).at_ = 0 ∨ (S.hand w).at_ = 1 ∨ (S.hand w).at_ = 2 ∨ (S.hand w).at_ = 3 ∨ (S.hand w).at_ = 4 ∨ (S.hand w).at_ = 5 by omega) with e | e | e | e | e | e <;> (unfold Sh.body; simp only [e])
 ·exact key _ ⟨1, false, S.calls.length⟩ 0 rfl rfl (by simp) (by simp)
 ·exact key _ ⟨if (S.ask K w).kind = 1 ∧ S.get (S.ask K w).key = none then 2 else 4, (S.get (S.ask K w).key).isSome, (S.hand w).call⟩ 1 rfl rfl (by dsimp only; split <;> omega) (by dsimp only; split <;> omega)
 ·exact key _ ⟨3, (S.hand w).found, (S.hand w).call⟩ 2 rfl rfl (by simp) (by simp)
 ·exact key _ ⟨4, (S.hand w).found, (S.hand w).call⟩ 3 rfl rfl (by simp) (by simp)
 ·split
  ·exact kend _ 4 rfl rfl (by omega)
  ·exact key _ ⟨5, (S.hand w).found, (S.hand w).call⟩ 4 rfl rfl (by simp) (by simp)
 ·exact kend _ 5 rfl rfl (by omega)
theorem left_step (h : ShOk K S) {w : Nat} (hw : w < K.work.length) (hc : S.canN K w = true) : (S.stepN K w).leftAll K + 1 ≤ S.leftAll K ∧ (S.stepN K w).steps = S.steps + 1 := by
 refine ⟨sum_less (S.left K) ((S.stepN K w).left K) w (fun v hv => ?_) (left_self h hw hc) _ hw, by rw [step_is hc]⟩
 unfold Sh.left
 rw [step_next w (by rw [h.nxl]; exact hw) v hv, step_hand w (by rw [h.hnl]; exact hw) v hv]
structure RunOk (K : Wk) (M : Nat) (S : Sh) : Prop where
 ok : ShOk K S
 m : S.steps + S.leftAll K ≤ M
theorem can_lt {w : Nat} (hc : S.canN K w = true) : w < K.work.length := by
 have := (can_facts hc).1
 unfold Sh.doneN at this
 simp only [Bool.or_eq_false_iff, decide_eq_false_iff_not] at this
 omega
theorem RunOk.step {M : Nat} (HO : ∀ k, K.of k < K.shards) (h : RunOk K M S) (w : Nat) : RunOk K M (S.stepN K w) := by
 cases hc : S.canN K w with
 | false => rw [step_not hc]; exact h
 | true =>
  have hw := can_lt hc
  obtain ⟨h1, h2⟩ := left_step h.ok hw hc
  exact ⟨h.ok.step HO w hw, by have := h.m; omega⟩
theorem RunOk.stepI {M : Nat} (HO : ∀ k, K.of k < K.shards) (h : RunOk K M S) (w : Int) : RunOk K M (S.stepI K w) := by
 unfold Sh.stepI
 split
 ·exact h
 ·exact h.step HO _
def Reach (K : Wk) (S S' : Sh) : Prop := ∀ P : Sh → Prop, P S → (∀ S w, ShOk K S → S.canN K w = true → P S → P (S.stepN K w)) → P S'
theorem Reach.refl (S : Sh) : Reach K S S := fun _ h _ => h
theorem Reach.trans {S1 S2 : Sh} (h : Reach K S S1) (h2 : Reach K S1 S2) : Reach K S S2 := fun P h0 hs => h2 P (h P h0 hs) hs
theorem Reach.step (h : ShOk K S) (w : Nat) : Reach K S (S.stepN K w) := fun P h0 hs => by
 cases hc : S.canN K w with
 | false => rw [step_not hc]; exact h0
 | true => exact hs S w h hc h0
theorem Reach.stepI (h : ShOk K S) (w : Int) : Reach K S (S.stepI K w) := by
 unfold Sh.stepI
 split
 ·exact Reach.refl S
 ·exact Reach.step h _
end Go.Proofs.YtabkmdhkfbcldaaGreat
