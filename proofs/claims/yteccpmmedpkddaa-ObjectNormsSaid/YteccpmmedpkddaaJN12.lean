/-
  The document's Norm.
  Stable sorting at a row of structs: what is asked of the types; a stretch exchanged with another one.
-/
import Derived.Test.YteccpmmedpkddaaJN11
import Derived.Shelf.SlSortCmp.KitK
import Derived.Deep.LoopGhost
import Derived.Test.YteccpmmedpkddaaProg
import Derived.Test.YteccpmmedpkddaaJN3
namespace Go.Proofs.Yteccpmmedpkddaa
open Go.RowKit
variable {W w w' : World} {secs : List Sc} {sv yv lv pv : Value} {Y : List Sy} {P : List Nat}
theorem made_nat (n : Nat) : (madeCells (Value.int .i64 0).cells (n * 1)).toList = (List.replicate n 0).map nat64 := by
  rw [Nat.mul_one]
  show (madeCells #[Value.int .i64 0] n).toList = _
  rw [toList_madeCells_one, List.map_replicate]; rfl
theorem con_rel {s : Sc} {c : ScC} {l : List Rl} (l' : List Rl) (h : s.con = { c with rel := l }) : ({ s with rel := l' } : Sc).con = { c with rel := l' } := congrArg (fun x : ScC => ({ x with rel := l' } : ScC)) h
theorem con_same {s : Sc} {c : ScC} {l : List Rl} (h : s.con = { c with rel := l }) : s.con = { c with rel := s.rel } := con_rel s.rel h
theorem con_len {secs : List Sc} {c : List ScC} (h : secs.map Sc.con = c) : secs.length = c.length := by rw [← h]; simp
set_option maxRecDepth 40000 in
set_option maxHeartbeats 16000000 in
theorem rnorm_any (o : Ob) (W : World) (ho : o.rd W) (hn0 : o.secs.length ≤ 100000) (hm0 : o.syms.length ≤ 100000) : Calls Try.prog 30 #[.agg o.cells.toArray] W (NormT W o.con) := by
  have HO := hid ho
  obtain ⟨n, hn⟩ : ∃ n, n = o.secs.length := ⟨_, rfl⟩
  obtain ⟨m, hm⟩ : ∃ n, n = o.syms.length := ⟨_, rfl⟩
  have HN := hid (And.intro hn hm)
  obtain ⟨W1, hW1⟩ : ∃ W1, W1 = W.alloc (.cells o.cells.toArray 25) := ⟨_, rfl⟩
  obtain ⟨W2, hW2⟩ : ∃ W2, W2 = W1.alloc (.cells #[.slice none 0 0, .slice none 0 0] 25) := ⟨_, rfl⟩
  have hz1 : W1.heap.size = W.heap.size + 1 := by rw [hW1]; simp
  have hz2 : W2.heap.size = W.heap.size + 1 + 1 := by rw [hW2]; simp [hz1]
  have hb2 : Below W.heap.size W W2 := by rw [hW2, hW1]; exact ((Below.refl _ _).alloc (Nat.le_refl _) _).alloc (by simp) _
  have hy1 : W2.heap[W.heap.size]? = some (.cells o.cells.toArray 25 (0, 0)) := by rw [hW2, hW1]; exact (Below.heap_alloc _ _ _ (by simp)).trans (heap_alloc_new _ _)
  have hy2 : W2.heap[W.heap.size + 1]? = some (.cells #[.slice none 0 0, .slice none 0 0] 25 (0, 0)) := by
    have := heap_alloc_new W1 (.cells #[.slice none 0 0, .slice none 0 0] 25)
    rw [hz1] at this
    rw [hW2]; exact this
  have HY := hid (And.intro hy1 hy2)
  have HC : Hid (∀ w', Below W2.heap.size W2 w' → w'.cell? ⟨W.heap.size, 0, none⟩ = some (.slice o.sp n o.sc) ∧ w'.cell? ⟨W.heap.size, 1, none⟩ = some (.slice o.yp m o.yc)) := fun w' hw => by
    rw [hn, hm]; exact obx_cells ((hw.block _ (by omega)).trans hy1)
  have HB2 := hid hb2
  have HBB : Hid (∀ w', Below W2.heap.size W2 w' → Below W.heap.size W w') := fun w' h => hb2.trans (h.mono hb2.size)
  have HZ := hid hz2
  have HW1 := hid hW1
  have HW2 := hid hW2
  have HCL : Hid (Calls Try.prog 26 #[.agg #[.slice o.sp n o.sc, .slice o.yp m o.yc]] W2 (CloR W2 o)) := by
    have := rclonO_any o W2 (ho.below hb2) hn0 hm0
    rw [hn, hm]; exact this
  rw [← hn] at hn0
  rw [← hm] at hm0
  unfold Ob.cells at HW1
  rw [← hn, ← hm] at HW1
  show Calls Try.prog 30 #[.agg #[.slice o.sp o.secs.length o.sc, .slice o.yp o.syms.length o.yc]] W _
  rw [← hn, ← hm]
  obtain ⟨c0, c1⟩ := HC.out W2 (Below.refl _ _)
  clear ho hn hm hW1 hW2 hb2 hy1 hy2 hz1 hz2
  go_enter Try.func30, Try.ntmps30
  go_upto_region 1 with (fail)
  rw [← HW1.out, ← HW2.out]
  go_upto_region 2 with (go_at_call 26; go_loud ((with_reducible refine HCL.out.mono ?_); rintro e w3 ⟨⟨sv, yv, secs, rfl, hf3, hc3⟩, hb3⟩; obtain ⟨sp3, sc3, rfl, -⟩ := own_shape hf3.os; obtain ⟨yp3, yc3, rfl, -⟩ := own_shape hf3.oy; have hls : secs.length = n := (by rw [HN.out.1]; simpa using con_len hc3); have HLS := hid hls; have HF3 := hid hf3; have HC3 := hid hc3; have HB3 := hid hb3; rw [hls, ← HN.out.2]; clear hf3 hc3 hb3 hls))
  obtain ⟨w4, hw4⟩ : ∃ w4, w4 = w3.alloc (.cells #[.slice sp3 n sc3, .slice yp3 m yc3] 25) := ⟨_, rfl⟩
  obtain ⟨g, hg⟩ : ∃ g, g = w3.heap.size := ⟨_, rfl⟩
  have hb34 : Below w3.heap.size w3 w4 := by rw [hw4]; exact (of_alloc rfl).1
  have hx4 : w4.heap[g]? = some (.cells #[.slice sp3 n sc3, .slice yp3 m yc3] 25 (0, 0)) := by rw [hg, hw4]; exact heap_alloc_new _ _
  have hb4 : Below W2.heap.size W2 w4 := HB3.out.trans (hb34.mono HB3.out.size)
  have HF4 : Hid (FrV W2.heap.size w4 (.slice sp3 n sc3) (.slice yp3 m yc3) secs o.syms secs.length) := by
    have := HF3.out.below HB3.out.size hb34
    rw [HLS.out, ← HN.out.2] at this
    show FrV _ _ _ _ _ _ _
    rw [HLS.out]; exact this
  have HX4 := hid hx4
  have HB4 := hid hb4
  have hgW : W2.heap.size ≤ g := by rw [hg]; exact HB3.out.size
  have hgl : g < w4.heap.size := (Array.getElem?_eq_some_iff.1 hx4).1
  obtain ⟨c0', c1'⟩ := HC.out w4 hb4
  have HOR : Hid (Calls Try.prog 57 #[.slice o.yp m o.yc] w4 (OrdT w4 (ordP o.syms))) := by
    have := rorder_any o.yp o.yc o.syms w4 (HO.out.syms.below (HBB.out _ hb4)) (by rw [← HN.out.2]; exact hm0)
    rw [← HN.out.2] at this; exact this
  rw [← hw4, ← hg]
  have HGW := hid hgW
  clear hw4 hg hb34 hx4 hb4 c0 c1 hgW
  obtain ⟨ps, hps⟩ : ∃ ps, ps = ordP o.syms := ⟨_, rfl⟩
  rw [← hps] at HOR
  have hpl : ps.length = m := by rw [hps, ordP_len, ← HN.out.2]
  have HPS := hid hps
  have HPL := hid hpl
  clear hps hpl
  go_upto_region 3 with (go_at_call 57; go_loud ((with_reducible refine HOR.out.mono ?_); rintro e w5 ⟨⟨lv, rfl, ho5⟩, hb5⟩; rw [HPL.out] at ho5; obtain ⟨lp5, lc5, rfl, -⟩ := own_shape ho5; have HO5 := hid ho5; have HB5 := hid hb5; clear ho5 hb5))
  go_upto_region 4 with ((with_reducible show wpList _ _ _ (⟨some 17, _, _, _, _, _⟩ :: _) _ _); go_loud (refine wpList_mkfull EInt rfl _ _ rfl w5.heap.size _ _ _ _ m rfl rfl rfl rfl (by omega) (by unfold maxLen; omega) (Nat.le_refl _) ?_); intro w6 ho6 hg6; rw [made_nat] at ho6; have HO6 := hid ho6; have HG6 := hid hg6; clear ho6 hg6)
  obtain ⟨pg, hpg⟩ : ∃ pg, pg = w5.heap.size := ⟨_, rfl⟩
  have hsz45 := HB4.out.size
  have hsz55 := HB5.out.size
  have hb46 : Below w4.heap.size w4 w6 := HB5.out.trans ((below_none HG6.out).mono HB5.out.size)
  have h6 : NmA W2.heap.size W2 g 3 1 m (ps.map nat64) (.slice sp3 n sc3) (.slice yp3 m yc3) (.slice lp5 m lc5) (.slice (some ⟨pg, 0, none⟩) m m) secs ((nsyms o.syms).take 0 ++ o.syms.drop 0) (List.replicate m 0) w6 := by
    refine ⟨?_, (hb46.block _ hgl).trans HX4.out, own_base (own_below HO5.out (below_none HG6.out)) (by omega), ?_, fun q e e2 => ?_, HGW.out, HB4.out.trans (hb46.mono HB4.out.size), rfl, by decide⟩
    · simpa using HF4.out.below HB4.out.size hb46
    · have := own_base HO6.out (show W2.heap.size ≤ w5.heap.size by omega)
      rw [← hpg] at this
      simpa using this
    · have a := own_lt HO5.out q e
      have e3 : pg = q := Option.some.inj e2
      omega
  have H6 := hid h6
  have HP6 : Hid (PlOk ps 0 (List.replicate m 0)) := by show PlOk _ _ _; rw [← HPL.out]; exact PlOk.zero ps
  rw [← hpg]
  clear h6 hb46 hpg hsz45 hsz55 c0' c1' hgl
  go_wp2_with (fail)
  go_loopw [6] (fun i wr => ∃ (k : Nat) (P : List Nat), k ≤ m ∧ i = .int .i64 k ∧ Aside (NmA W2.heap.size W2 g 3 1 m (ps.map nat64) (.slice sp3 n sc3) (.slice yp3 m yc3) (.slice lp5 m lc5) (.slice (some ⟨pg, 0, none⟩) m m) secs ((nsyms o.syms).take k ++ o.syms.drop k) P wr ∧ PlOk ps k P)) (fun i _ => m - (intOf i).toNat)
  case atStart => exact ⟨0, List.replicate m 0, by omega, rfl, ⟨H6.out, HP6.out⟩⟩
  case round =>
    rename World => wr
    obtain ⟨k, P, hk, rfl, hrr⟩ := hrel
    have HI := hid hrr.out.1
    have HPK := hid hrr.out.2
    clear hrr
    have hx := HI.out.box
    have x0 := cell_of_row _ _ 0 _ _ _ hx
    have x1 := cell_of_row _ _ 1 _ _ _ hx
    simp only [List.getElem?_toArray, List.getElem?_cons_zero, List.getElem?_cons_succ] at x0 x1
    by_cases hlt : k < m
    · have hkI : (k : Int) < m := by omega
      have hkp : k < ps.length := by rw [HPL.out]; exact hlt
      obtain ⟨q, hq⟩ : ∃ q, ps[k]? = some q := ⟨_, List.getElem?_eq_getElem hkp⟩
      have hqm : q < m := by
        have hmem : q ∈ ordP o.syms := by rw [← HPS.out]; exact List.mem_of_getElem? hq
        rw [HN.out.2]; exact ordP_lt _ q hmem
      have hql : q < o.syms.length := by rw [← HN.out.2]; exact hqm
      have hqI : (q : Int) < m := by omega
      have hqn : ((q : Nat) : Int).toNat = q := by omega
      have hkn : ((k : Nat) : Int).toNat = k := by omega
      have hq0 : (0 : Int) ≤ (q : Int) := by omega
      obtain ⟨c0, c1⟩ := HC.out wr HI.out.b
      -- the order's row
      obtain ⟨lb, hlb⟩ : ∃ lb, lp5 = some ⟨lb, 0, none⟩ := by
        obtain ⟨a, b, e, _⟩ := own_block HI.out.lr (by omega)
        cases e; exact ⟨a, rfl⟩
      subst hlb
      have hlr : wr.cell? ⟨lb, k, none⟩ = some (.int .i64 ((q : Nat) : Int)) := by
        obtain ⟨_, _, e, hr⟩ := own_shape HI.out.lr
        cases e
        have := nat_cell hr k hkp
        rw [Nat.zero_add] at this
        rw [this, (List.getElem?_eq_some_iff.1 hq).2]
      obtain ⟨gy, hgy⟩ : ∃ gy, yp3 = some ⟨gy, 0, none⟩ := by
        have ho := HI.out.fr.oy
        obtain ⟨a, b, e, _⟩ := own_block ho (by simp [nsyms_len]; omega)
        cases e; exact ⟨a, rfl⟩
      subst hgy
      have hYl : ((nsyms o.syms).take k ++ o.syms.drop k).length = m := by simp [nsyms_len]; have := HN.out.2; omega
      have hsy : ∃ b off, o.yp = some ⟨b, off, none⟩ := by
        obtain ⟨b, off, e, -⟩ := HO.out.syms.at (by rw [flat_len Sy.cells 4 (fun _ => rfl)]; omega)
        exact ⟨b, off, e⟩
      obtain ⟨b, off, hyp⟩ := hsy
      have hsr := HO.out.syms.below (HBB.out _ HI.out.b)
      rw [hyp] at hsr
      obtain ⟨y0, y1, y2, y3⟩ := sy_cells hsr q hql
      have hoy := HI.out.fr.oy
      rw [hYl] at hoy
      have hYc : ∀ j, j < 4 → ∃ v, wr.cell? ⟨gy, k * 4 + j, none⟩ = some v := fun j hj => by
        have := own_cell hoy (k * 4 + j) (by rw [flat_len Sy.cells 4 (fun _ => rfl), hYl]; omega)
        exact ⟨_, this.1⟩
      obtain ⟨u0, z0⟩ := hYc 0 (by decide)
      obtain ⟨u1, z1⟩ := hYc 1 (by decide)
      obtain ⟨u2, z2⟩ := hYc 2 (by decide)
      obtain ⟨u3, z3⟩ := hYc 3 (by decide)
      rw [Nat.add_zero] at z0
      have zf := fun j => World.ownsRow.frozenAt hoy j
      have zf0 := zf (k * 4)
      have zf1 := zf (k * 4 + 1)
      have zf2 := zf (k * 4 + 2)
      have zf3 := zf (k * 4 + 3)
      have HNX : Hid (((nsyms o.syms).take k ++ o.syms.drop k).set k o.syms[q] = (nsyms o.syms).take (k + 1) ++ o.syms.drop (k + 1)) := by
        have hkn' : k < (nsyms o.syms).length := by rw [nsyms_len, ← HN.out.2]; exact hlt
        have e : (nsyms o.syms)[k] = o.syms[q] := by
          have h1 : (nsyms o.syms)[k]? = some (atSy o.syms q) := by unfold nsyms; rw [List.getElem?_map, ← HPS.out, hq]; rfl
          have h2 := (List.getElem?_eq_getElem hkn').symm.trans h1
          rw [Option.some.inj h2]
          unfold atSy; simp [List.getD_eq_getElem?_getD, hql]
        show _ = _
        rw [← e]; exact put_at _ _ _ (nsyms_len _) hkn'
      have HYL := hid hYl
      generalize o.syms[q] = s at *
      obtain ⟨sn, ss, sval, sg⟩ := s
      dsimp only at y0 y1 y2 y3
      have hPl : P.length = m := by have := HPK.out.1; rw [HPL.out] at this; exact this
      have HW := HI.out.putY hYl.symm (i := k) (by rw [hYl]; exact hlt) ⟨sn, ss, sval, sg⟩
      have HWH := hid HW
      have HQQ := hid hq
      have HPLL := hid hPl
      rw [hyp] at c1
      clear hsr zf hYc HW hq hYl hPl hx hoy
      go_upto_region 7 with (fail)
      have mixed : Try.prog.follows .mixedOrders = true := by kernel_rfl
      go_big_region_o
      go_upto_region 8 with (fail)
      obtain ⟨w7, hw7⟩ : ∃ w7, w7 = (((wr.setCell ⟨gy, k * 4, none⟩ (.string sn)).setCell ⟨gy, k * 4 + 1, none⟩ (.int .i64 ss)).setCell ⟨gy, k * 4 + 2, none⟩ (.int .i64 sval)).setCell ⟨gy, k * 4 + 3, none⟩ (.bool sg) := ⟨_, rfl⟩
      have h7 : NmA W2.heap.size W2 g 3 1 m (ps.map nat64) (.slice sp3 n sc3) (.slice (some ⟨gy, 0, none⟩) m yc3) (.slice (some ⟨lb, 0, none⟩) m lc5) (.slice (some ⟨pg, 0, none⟩) m m) secs ((nsyms o.syms).take (k + 1) ++ o.syms.drop (k + 1)) P w7 := by
        rw [hw7, ← HNX.out]; exact HWH.out
      have H7 := hid h7
      have hlr7 : w7.cell? ⟨lb, k, none⟩ = some (.int .i64 ((q : Nat) : Int)) := by
        obtain ⟨_, _, e, hr⟩ := own_shape h7.lr
        cases e
        have := nat_cell hr k hkp
        rw [Nat.zero_add] at this
        rw [this, (List.getElem?_eq_some_iff.1 HQQ.out).2]
      have hpo := h7.pr
      rw [HPLL.out] at hpo
      have hpc := own_cell hpo q (by simp [HPLL.out]; exact hqm)
      obtain ⟨pv0, hpv0⟩ : ∃ v, w7.cell? ⟨pg, q, none⟩ = some v := ⟨_, hpc.1⟩
      have hpf := hpc.2
      have h8 := h7.setP HPLL.out.symm (q := q) (by rw [HPLL.out]; exact hqm) k
      have H8 := hid h8
      have hpk := HPK.out.set (by rw [HPS.out]; exact ordP_nodup _) HQQ.out (by rw [HPL.out]; exact hqm)
      have HPK2 := hid hpk
      rw [← hw7]
      clear hw7 h7 hpo hpc h8 hpk hlr z0 z1 z2 z3 zf0 zf1 zf2 zf3 y0 y1 y2 y3 x0 x1 c0 c1
      go_wp2_with fail
      exact ⟨⟨k + 1, P.set q k, by omega, by go_num, ⟨by first | exact H8.out | exact H8.out.below (Below.refl _ _).drew, HPK2.out⟩⟩, by simp [intOf]; omega⟩
    · have hke : k = m := by omega
      subst hke
      have HYN : Hid ((nsyms o.syms).take k ++ o.syms.drop k = nsyms o.syms) := by
        show _ = _
        rw [List.take_of_length_le (by rw [nsyms_len, ← HN.out.2]; exact Nat.le_refl _), List.drop_eq_nil_of_le (by rw [← HN.out.2]; exact Nat.le_refl _), List.append_nil]
      have h1 : NmA W2.heap.size W2 g 3 1 k (ps.map nat64) (.slice sp3 n sc3) (.slice yp3 k yc3) (.slice lp5 k lc5) (.slice (some ⟨pg, 0, none⟩) k k) secs (nsyms o.syms) P wr := by have := HI.out; rw [HYN.out] at this; exact this
      have H1 := hid h1
      have HPA : Hid (∀ q, q < o.syms.length → P[q]? = some ((ordP o.syms).idxOf q)) := fun q hq => by
        have := HPK.out
        rw [HPS.out, HN.out.2] at this
        exact this.all q hq
      have hPl : P.length = k := by have := HPK.out.1; rw [HPL.out] at this; exact this
      have HPLL := hid hPl
      clear h1 hx hPl
      go_wp2_with fail
      go_loopw [7] (fun i wr => ∃ (j : Nat) (secs : List Sc), j ≤ n ∧ i = .int .i64 j ∧ Aside (NmA W2.heap.size W2 g 3 1 k (ps.map nat64) (.slice sp3 n sc3) (.slice yp3 k yc3) (.slice lp5 k lc5) (.slice (some ⟨pg, 0, none⟩) k k) secs (nsyms o.syms) P wr ∧ secs.map Sc.con = mapTo (nsec o.syms) (o.secs.map Sc.con) j)) (fun i _ => n - (intOf i).toNat)
      case atStart => exact ⟨0, secs, by omega, rfl, ⟨H1.out, by rw [mapTo_zero]; exact HC3.out⟩⟩
      case round =>
        clear x0 x1
        rename World => wx
        obtain ⟨j, secs1, hj, rfl, hrr⟩ := hrel
        have HJ := hid hrr.out.1
        have HJC := hid hrr.out.2
        clear hrr
        have hx := HJ.out.box
        have x0 := cell_of_row _ _ 0 _ _ _ hx
        have x1 := cell_of_row _ _ 1 _ _ _ hx
        simp only [List.getElem?_toArray, List.getElem?_cons_zero, List.getElem?_cons_succ] at x0 x1
        have hl1 : secs1.length = n := by have := congrArg List.length HJC.out; rw [mapTo_len] at this; rw [HN.out.1]; simpa using this
        have HL1 := hid hl1
        by_cases hlt : j < n
        · have hjI : (j : Int) < n := by omega
          have hj1 : j < secs1.length := by omega
          obtain ⟨s, hs⟩ : ∃ s, secs1[j]? = some s := ⟨_, List.getElem?_eq_getElem hj1⟩
          obtain ⟨gs, hgs⟩ : ∃ gs, sp3 = some ⟨gs, 0, none⟩ := by
            obtain ⟨a, b, e, _⟩ := own_block HJ.out.fr.os (by omega)
            cases e; exact ⟨a, rfl⟩
          subst hgs
          obtain ⟨c, hc⟩ : ∃ c, (o.secs.map Sc.con)[j]? = some c := ⟨_, List.getElem?_eq_getElem (by simp; rw [← HN.out.1]; exact hlt)⟩
          have hsc : s.con = c := by
            have h1 := mapTo_get (nsec o.syms) _ hc
            rw [← HJC.out, List.getElem?_map, hs] at h1
            exact Option.some.inj h1
          have hcell : wx.cell? ⟨gs, j * 6 + 5, none⟩ = some (.slice s.rp s.rel.length s.rc) := by
            obtain ⟨_, _, e, hr⟩ := own_shape HJ.out.fr.os
            cases e
            have := (sc_cells hr j hj1).2.2.2.2.2
            rw [Nat.zero_add, (List.getElem?_eq_some_iff.1 hs).2] at this
            exact this
          have hrl : s.rel.length ≤ 4398046510976 := by
            obtain ⟨x, hx, rfl⟩ : ∃ x ∈ o.secs, x.con = c := by
              have := List.mem_of_getElem? hc
              obtain ⟨x, h1, h2⟩ := List.mem_map.1 this
              exact ⟨x, h1, h2⟩
            have := (HO.out.each x hx).rcap
            have e : s.rel = x.rel := congrArg ScC.rel hsc
            rw [e]; exact this
          obtain ⟨rp, hrp⟩ : ∃ rp, rp = s.rp := ⟨_, rfl⟩
          obtain ⟨rc, hrc⟩ : ∃ rc, rc = s.rc := ⟨_, rfl⟩
          obtain ⟨R, hR⟩ : ∃ R, R = s.rel.length := ⟨_, rfl⟩
          rw [← hrp, ← hrc, ← hR] at hcell
          rw [← hR] at hrl
          have HS := hid (And.intro hs (And.intro hsc (And.intro hrp (And.intro hrc hR))))
          have HCC := hid hc
          clear hs hsc hrp hrc hR hc hx
          go_wp2_with fail
          go_loopw [9] (fun i wr => ∃ (q : Nat), q ≤ R ∧ i = .int .i64 q ∧ Aside (∃ (secs2 : List Sc) (s2 : Sc), NmA W2.heap.size W2 g 3 1 k (ps.map nat64) (.slice (some ⟨gs, 0, none⟩) n sc3) (.slice yp3 k yc3) (.slice lp5 k lc5) (.slice (some ⟨pg, 0, none⟩) k k) secs2 (nsyms o.syms) P wr ∧ secs2[j]? = some s2 ∧ s2.rp = rp ∧ s2.rc = rc ∧ s2.con = { c with rel := mapTo (nrel o.syms) c.rel q } ∧ secs2.map Sc.con = (mapTo (nsec o.syms) (o.secs.map Sc.con) j).set j s2.con)) (fun i _ => R - (intOf i).toNat)
          case atStart => exact ⟨0, by omega, rfl, ⟨secs1, s, HJ.out, HS.out.1, HS.out.2.2.1.symm, HS.out.2.2.2.1.symm, by rw [HS.out.2.1, mapTo_zero], by rw [HS.out.2.1, set_self _ _ _ (mapTo_get _ _ HCC.out)]; exact HJC.out⟩⟩
          case round =>
            clear x0 x1 hcell
            rename World => wy
            obtain ⟨q, hq, rfl, hrr⟩ := hrel
            obtain ⟨secs2, s2, hA, hs2, hrp2, hrc2, hcon2, hcs2⟩ := hrr.out
            clear hrr
            have hRc : R = c.rel.length := by rw [HS.out.2.2.2.2, ← HS.out.2.1]; rfl
            have hrel2 : s2.rel = mapTo (nrel o.syms) c.rel q := congrArg ScC.rel hcon2
            have hR2 : s2.rel.length = R := by rw [hrel2, mapTo_len, hRc]
            by_cases hqR : q < R
            · have hqI : (q : Int) < R := by omega
              obtain ⟨r, hr⟩ : ∃ r, c.rel[q]? = some r := ⟨_, List.getElem?_eq_getElem (by omega)⟩
              have hr2 : s2.rel[q]? = some r := by rw [hrel2]; exact mapTo_get _ _ hr
              obtain ⟨gr, hgr⟩ : ∃ gr, rp = some ⟨gr, 0, none⟩ := by
                have := (hA.fr.each j s2 (List.getElem?_eq_some_iff.1 hs2).1 hs2).rel
                unfold rV at this
                rw [hrp2] at this
                obtain ⟨a, b, e, _⟩ := own_block this (by omega)
                cases e; exact ⟨a, rfl⟩
              subst hgr
              have hrow := (hA.fr.each j s2 (List.getElem?_eq_some_iff.1 hs2).1 hs2).rel
              unfold rV at hrow
              rw [hrp2] at hrow
              obtain ⟨_, _, e, hrr⟩ := own_shape hrow
              cases e
              have hcl := (rl_cells hrr q (by omega)).2.2.1
              rw [Nat.zero_add, (List.getElem?_eq_some_iff.1 hr2).2] at hcl
              have hfz : wy.frozen? ⟨gr, q * 4 + 2, none⟩ = false := World.ownsRow.frozenAt hrow _
              have hstep : ∀ v, nrel o.syms r = { r with sym := v } → NmA W2.heap.size W2 g 3 1 k (ps.map nat64) (.slice (some ⟨gs, 0, none⟩) n sc3) (.slice yp3 k yc3) (.slice lp5 k lc5) (.slice (some ⟨pg, 0, none⟩) k k) (secs2.set j { s2 with rel := s2.rel.set q { r with sym := v } }) (nsyms o.syms) P (wy.setCell ⟨gr, q * 4 + 2, none⟩ (.int .i64 v)) := fun v _ => hA.setR hs2 hrp2 hr2 v
              have HST := hid hstep
              have hj2 : j < secs2.length := (List.getElem?_eq_some_iff.1 hs2).1
              have hnew : ∀ (s3 : Sc), s3.rp = some ⟨gr, 0, none⟩ → s3.rc = rc → s3.con = { c with rel := mapTo (nrel o.syms) c.rel (q + 1) } → (secs2.set j s3)[j]? = some s3 ∧ s3.rp = some ⟨gr, 0, none⟩ ∧ s3.rc = rc ∧ s3.con = { c with rel := mapTo (nrel o.syms) c.rel (q + 1) } ∧ (secs2.set j s3).map Sc.con = (mapTo (nsec o.syms) (o.secs.map Sc.con) j).set j s3.con := fun s3 h1 h2 h3 => by
                refine ⟨List.getElem?_set_self hj2, h1, h2, h3, ?_⟩
                rw [List.map_set, hcs2, List.set_set]
              have HNEW := hid hnew
              have hset : mapTo (nrel o.syms) c.rel (q + 1) = s2.rel.set q (nrel o.syms r) := by rw [hrel2]; exact (mapTo_set _ _ hr).symm
              have HSET := hid hset
              have HA2 := hid hA
              have HC2 := hid (And.intro hs2 (And.intro hrp2 (And.intro hrc2 (And.intro hcon2 (And.intro hcs2 hr2)))))
              clear hA hs2 hrp2 hrc2 hcon2 hcs2 hr hr2 hrow hrr hstep hnew hset hrel2 hR2 hRc
              obtain ⟨ro, rt, ry, ra⟩ := r
              dsimp only at hcl
              by_cases h0 : 0 ≤ ry
              · by_cases hm : ry < k
                · obtain ⟨t, rfl⟩ : ∃ t : Nat, ry = t := ⟨ry.toNat, by omega⟩
                  have htk : t < k := by omega
                  have htn : ((t : Nat) : Int).toNat = t := by omega
                  have hpt := HPA.out t (by rw [← HN.out.2]; exact htk)
                  obtain ⟨v, hv⟩ : ∃ v, v = (ordP o.syms).idxOf t := ⟨_, rfl⟩
                  rw [← hv] at hpt
                  have hpo := HA2.out.pr
                  rw [HPLL.out] at hpo
                  have hpc := (own_cell hpo t (by simp [HPLL.out]; exact htk)).1
                  simp only [List.getElem_map, (List.getElem?_eq_some_iff.1 hpt).2, nat64] at hpc
                  have hnr : nrel o.syms ⟨ro, rt, (t : Int), ra⟩ = ⟨ro, rt, ((v : Nat) : Int), ra⟩ := by
                    unfold nrel
                    rw [if_pos ⟨by simp, by show ((t : Nat) : Int) < _; rw [← HN.out.2]; omega⟩, hv]
                    simp
                  have HV := hid (HST.out (v : Int) hnr)
                  have HNR := hid hnr
                  clear hpt hpo hnr hv
                  go_wp2_with fail
                  refine ⟨⟨q + 1, by omega, by go_num, ⟨_, _, HV.out, HNEW.out _ HC2.out.2.1 HC2.out.2.2.1 ?_⟩⟩, by simp [intOf]; omega⟩
                  rw [HSET.out, HNR.out]
                  exact con_rel _ HC2.out.2.2.2.1
                · have hnr : nrel o.syms ⟨ro, rt, ry, ra⟩ = ⟨ro, rt, ry, ra⟩ := by
                    unfold nrel
                    rw [if_neg (fun h => hm (by have := h.2; rw [← HN.out.2] at this; exact this))]
                  have HNR := hid hnr
                  have hm' : (k : Int) ≤ ry := by omega
                  have hmd : decide (ry < (k : Int)) = false := decide_eq_false (by omega)
                  clear hnr hm
                  go_wp2_with fail
                  refine ⟨⟨q + 1, by omega, by go_num, ⟨secs2, s2, HA2.out, HC2.out.1, HC2.out.2.1, HC2.out.2.2.1, ?_, HC2.out.2.2.2.2.1⟩⟩, by simp [intOf]; omega⟩
                  rw [HSET.out, HNR.out, set_self _ _ _ HC2.out.2.2.2.2.2]
                  exact con_same HC2.out.2.2.2.1
              · have hnr : nrel o.syms ⟨ro, rt, ry, ra⟩ = ⟨ro, rt, ry, ra⟩ := by
                  unfold nrel
                  rw [if_neg (fun h => h0 h.1)]
                have HNR := hid hnr
                have h0' : ry < 0 := by omega
                clear hnr h0
                go_wp2_with fail
                refine ⟨⟨q + 1, by omega, by go_num, ⟨secs2, s2, HA2.out, HC2.out.1, HC2.out.2.1, HC2.out.2.2.1, ?_, HC2.out.2.2.2.2.1⟩⟩, by simp [intOf]; omega⟩
                rw [HSET.out, HNR.out, set_self _ _ _ HC2.out.2.2.2.2.2]
                exact con_same HC2.out.2.2.2.1
            · have hqe : q = R := by omega
              subst hqe
              have HFIN : Hid (secs2.map Sc.con = mapTo (nsec o.syms) (o.secs.map Sc.con) (j + 1)) := by
                show _ = _
                rw [hcs2, hcon2, mapTo_all _ _ hRc]
                exact mapTo_set (nsec o.syms) _ HCC.out
              have HA2 := hid hA
              clear hA hs2 hrp2 hrc2 hcon2 hcs2 hrel2 hR2 hRc
              go_wp2_with fail
              exact ⟨⟨j + 1, secs2, by omega, by go_num, ⟨HA2.out, HFIN.out⟩⟩, by simp [intOf]; omega⟩
        · have hje : j = n := by omega
          subst hje
          have hres : wx.heap[W.heap.size + 1]? = some (.cells #[.slice none 0 0, .slice none 0 0] 25 (0, 0)) := (HJ.out.b.block _ (by have := HZ.out; omega)).trans HY.out.2
          have hr0 := cell_of_row _ _ 0 _ _ _ hres
          have hr1 := cell_of_row _ _ 1 _ _ _ hres
          have hf0 := frozen_of_row _ _ 0 _ _ hres
          have hf1 := frozen_of_row _ _ 1 _ _ hres
          simp only [List.getElem?_toArray, List.getElem?_cons_zero, List.getElem?_cons_succ] at hr0 hr1
          have hbw := HBB.out _ HJ.out.b
          have hfr := HJ.out.fr.base HB2.out.size
          have HB9 : Hid (∀ (u v : Value), Below W.heap.size W ((wx.setCell ⟨W.heap.size + 1, 0, none⟩ u).setCell ⟨W.heap.size + 1, 1, none⟩ v)) := fun u v => (hbw.setCell (Nat.le_succ _) _).setCell (Nat.le_succ _) _
          have HF9 : Hid (∀ (u v : Value), FrV W.heap.size ((wx.setCell ⟨W.heap.size + 1, 0, none⟩ u).setCell ⟨W.heap.size + 1, 1, none⟩ v) (.slice sp3 j sc3) (.slice yp3 k yc3) secs1 (nsyms o.syms) secs1.length) := fun u v => by
            have l1 : ∀ (w : World) (j : Nat) (x : Value), tagAt w (W.heap.size + 1) = some (25 + 1) → W.heap.size ≤ w.heap.size → Lies W.heap.size isO w (w.setCell ⟨W.heap.size + 1, j, none⟩ x) := fun w j x ht hz =>
              Lies.grown (grown_set w _ x) (fun q e => by cases e; exact ⟨ht, Nat.le_succ _⟩) (by unfold isO; decide) hz
            have t1 := tag_row hres
            have t2 : tagAt (wx.setCell ⟨W.heap.size + 1, 0, none⟩ u) (W.heap.size + 1) = some (25 + 1) := tag_row (heap_setCell_same _ _ 0 _ _ _ hres)
            exact (hfr.lies (l1 wx 0 u t1 hbw.size)).lies (l1 _ 1 v t2 (by simpa using hbw.size))
          have HR9 : Hid (∀ (u v : Value), ((wx.setCell ⟨W.heap.size + 1, 0, none⟩ u).setCell ⟨W.heap.size + 1, 1, none⟩ v).heap[W.heap.size + 1]? = some (.cells #[u, v] 25 (0, 0))) := fun u v => heap_setCell_same _ _ 1 _ _ _ (heap_setCell_same _ _ 0 _ _ _ hres)
          have HCN : Hid (secs1.map Sc.con = o.con.1.map (nsec o.con.2)) := by
            have := HJC.out
            rw [mapTo_all _ _ (by simp; exact HN.out.1)] at this
            exact this
          clear hres hbw hfr hx
          go_wp2_with fail
          have r9 := HR9.out (.slice sp3 j sc3) (.slice yp3 k yc3)
          have y0 := cell_of_row _ _ 0 _ _ _ r9
          have y1 := cell_of_row _ _ 1 _ _ _ r9
          simp only [List.getElem?_toArray, List.getElem?_cons_zero, List.getElem?_cons_succ] at y0 y1
          obtain ⟨W9, hW9⟩ : ∃ W9, W9 = (wx.setCell ⟨W.heap.size + 1, 0, none⟩ (.slice sp3 j sc3)).setCell ⟨W.heap.size + 1, 1, none⟩ (.slice yp3 k yc3) := ⟨_, rfl⟩
          rw [← hW9] at y0 y1 ⊢
          refine bodyPost_ret (v := .agg #[.slice sp3 j sc3, .slice yp3 k yc3]) (by simp [results, Try.results30, go_sem, y0, y1]) rfl ?_
          exact ⟨⟨_, _, secs1, rfl, by rw [hW9]; exact HF9.out _ _, HCN.out⟩, by rw [hW9]; exact HB9.out _ _⟩
end Go.Proofs.Yteccpmmedpkddaa
namespace Go.Proofs.Yteccpmmedpkddaa
open Go.Shelf Go.RowKit Go.Lib Go.Sort

structure StT (P : Program) (k : Nat) : Prop where
  mixed : P.follows .mixedOrders = true
  t0 : P.underlying 0 = some (TypeDesc.tuple #[])
  a0 : ∀ w, (isAgg 0).run P w = .ok false w
  z0 : ∀ w, (Go.sizeOf 0).run P w = .ok 1 w
  v0 : ∀ w, (zeroValue 0).run P w = .ok (Value.tuple #[]) w
  t3 : P.underlying 3 = some (TypeDesc.int IntKind.i64)
  a3 : ∀ w, (isAgg 3).run P w = .ok false w
  z3 : ∀ w, (Go.sizeOf 3).run P w = .ok 1 w
  v3 : ∀ w, (zeroValue 3).run P w = .ok (Value.int IntKind.i64 0) w
  t4 : P.underlying 4 = some (TypeDesc.bool)
  a4 : ∀ w, (isAgg 4).run P w = .ok false w
  z4 : ∀ w, (Go.sizeOf 4).run P w = .ok 1 w
  v4 : ∀ w, (zeroValue 4).run P w = .ok (Value.bool false) w
  t22 : P.underlying 76 = some (TypeDesc.slice 78)
  a22 : ∀ w, (isAgg 76).run P w = .ok false w
  z22 : ∀ w, (Go.sizeOf 76).run P w = .ok 1 w
  v22 : ∀ w, (zeroValue 76).run P w = .ok (Value.slice none 0 0) w
  t25 : P.underlying 80 = some (TypeDesc.func #[78, 78] #[3] false)
  a25 : ∀ w, (isAgg 80).run P w = .ok false w
  z25 : ∀ w, (Go.sizeOf 80).run P w = .ok 1 w
  v25 : ∀ w, (zeroValue 80).run P w = .ok (Value.nilFunc) w
  t39 : P.underlying 98 = some (TypeDesc.int IntKind.u64)
  a39 : ∀ w, (isAgg 98).run P w = .ok false w
  z39 : ∀ w, (Go.sizeOf 98).run P w = .ok 1 w
  v39 : ∀ w, (zeroValue 98).run P w = .ok (Value.int IntKind.u64 0) w
  aE : ∀ w, (isAgg 78).run P w = .ok true w
  zE : ∀ w, (Go.sizeOf 78).run P w = .ok k w

section
variable {α : Type} [Inhabited α]
theorem swp_list {d : Array α} {p q r : List α} {x y : α} {i j : Nat} (hd : d.toList = p ++ x :: (q ++ y :: r)) (hi : i = p.length) (hj : j = p.length + 1 + q.length) :
    (swp d i j).toList = p ++ y :: (q ++ x :: r) := by
  have hs : d.size = p.length + 1 + q.length + 1 + r.length := by
    have := congrArg List.length hd
    simp at this; omega
  have gi : d[i]! = x := by
    rw [getElem!_pos d i (by omega), ← Array.getElem_toList]
    simp only [hd, hi]
    rw [List.getElem_append_right (by omega)]
    simp
  have gj : d[j]! = y := by
    rw [getElem!_pos d j (by omega), ← Array.getElem_toList]
    simp only [hd, hj]
    rw [List.getElem_append_right (by omega)]
    simp only [show p.length + 1 + q.length - p.length = q.length + 1 by omega, List.getElem_cons_succ]
    rw [List.getElem_append_right (by omega)]
    simp
  unfold swp
  rw [Array.toList_setIfInBounds, Array.toList_setIfInBounds, gi, gj, hd, hi, hj, List.set_append_right _ _ (by omega), List.set_append_right _ _ (by omega)]
  simp only [Nat.sub_self, List.set_cons_zero, show p.length + 1 + q.length - p.length = q.length + 1 by omega, List.set_cons_succ]
  rw [List.set_append_right _ _ (by omega)]
  simp
theorem swp_list' {d : Array α} {p q r : List α} {x y : α} {i j : Nat} (hd : d.toList = p ++ x :: (q ++ y :: r)) (hi : i = p.length + 1 + q.length) (hj : j = p.length) :
    (swp d i j).toList = p ++ y :: (q ++ x :: r) := by
  have hs : d.size = p.length + 1 + q.length + 1 + r.length := by
    have := congrArg List.length hd
    simp at this; omega
  have e : swp d i j = swp d j i := by
    refine Array.ext (by rw [size_swp, size_swp]) fun k h1 h2 => ?_
    rw [size_swp] at h1
    rw [← getElem!_pos _ k (by rw [size_swp]; exact h1), ← getElem!_pos _ k (by rw [size_swp]; exact h1), swp_get d (by omega) (by omega) k, swp_get d (by omega) (by omega) k]
    by_cases h3 : k = i <;> by_cases h4 : k = j <;> simp [h3, h4]
    all_goals omega
  rw [e]
  exact swp_list hd hj hi
end
variable {P : Program} {k : Nat} {α : Type} [Inhabited α]

set_option maxHeartbeats 4000000 in
set_option maxRecDepth 1000000 in
/-- slices.swapRangeCmpFunc: two stretches of one length exchanged. -/
theorem swapRange_any (T : StT P k) (F : P.funcs[82]? = some Try.f82) (enc : α → List Value) (fv : Value) (blk off cap : Nat) (d0 d : Array α) (w0 w : World)
    (R : RowK enc k w0 blk off d0) (hs : d0.size = d.size) (S : SWK enc k w0 blk off d w) (hsz : d.size < 4611686018427387904)
    (pre X M Y post : List α) (hd : d.toList = pre ++ (X ++ (M ++ (Y ++ post)))) (hXY : X.length = Y.length) :
    Calls P 82 #[.slice (some ⟨blk, off, none⟩) d.size cap, .int .i64 (pre.length : Nat), .int .i64 (pre.length + X.length + M.length : Nat), .int .i64 (X.length : Nat), fv] w fun e w' =>
      e = .returned (.tuple #[]) ∧ ∃ d' : Array α, d'.size = d.size ∧ d'.toList = pre ++ (Y ++ (M ++ (X ++ post))) ∧ SWK enc k w0 blk off d' w' := by
  have mixed := T.mixed; have t0 := T.t0; have a0 := T.a0; have z0 := T.z0; have v0 := T.v0; have t3 := T.t3; have a3 := T.a3; have z3 := T.z3; have v3 := T.v3; have t4 := T.t4; have a4 := T.a4; have z4 := T.z4; have v4 := T.v4; have t22 := T.t22; have a22 := T.a22; have z22 := T.z22; have v22 := T.v22; have t25 := T.t25; have a25 := T.a25; have z25 := T.z25; have v25 := T.v25
  have aE := T.aE; have zE := T.zE
  have S0 : Aside (SWK enc k w0 blk off d w) := S
  have hdl : d.size = pre.length + X.length + M.length + Y.length + post.length := by
    have := congrArg List.length hd
    simp at this; omega
  have HD : Hid _ := hd
  clear S hd
  obtain ⟨a, ha⟩ : ∃ a, a = pre.length := ⟨_, rfl⟩
  obtain ⟨n, hn⟩ : ∃ n, n = X.length := ⟨_, rfl⟩
  obtain ⟨b, hb⟩ : ∃ b, b = pre.length + X.length + M.length := ⟨_, rfl⟩
  rw [← ha, ← hn]; rw [← ha, ← hn] at hb hdl; rw [← hn] at hXY
  rw [show a + n + M.length = b from by omega]
  have han : a + n ≤ b := by omega
  have hbn : b + n ≤ d.size := by omega
  have HA : Aside _ := And.intro ha (And.intro hn (And.intro hb (And.intro hXY hdl)))
  clear ha hn hb hXY hdl
  go_enter F, Try.ntmps82
  go_wp2
  go_loopg [10] n (fun kx s8 wr => ∃ (i : Nat) (dk : Array α) (X1 X2 Y1 Y2 : List α), s8 = .int .i64 i ∧ i ≤ n ∧ n - i ≤ kx ∧ dk.size = d.size ∧ Aside (X = X1 ++ X2 ∧ Y = Y1 ++ Y2 ∧ X1.length = i ∧ Y1.length = i ∧ dk.toList = pre ++ (Y1 ++ (X2 ++ (M ++ (X1 ++ (Y2 ++ post)))))) ∧ Aside (SWK enc k w0 blk off dk wr))
  case atStart => exact ⟨0, d, [], X, [], Y, by go_num, by omega, by omega, rfl, ⟨rfl, rfl, rfl, rfl, by rw [HD.out]; simp⟩, S0⟩
  case round =>
    clear S0
    obtain ⟨i, dk, X1, X2, Y1, Y2, rfl, hin, hkx, hds, HL, S1⟩ := hrel
    by_cases hlt : i < n
    · have hltz : (i : Int) < (n : Int) := by omega
      have ea44 : ((a : Int) + (i : Int)).toNat = a + i := by omega
      have pa44 : (0 : Int) ≤ (a : Int) + (i : Int) := by omega
      have ba44 : (a : Int) + (i : Int) < (d.size : Int) := by omega
      have ra44 : IntKind.i64.wrap ((a : Int) + (i : Int)) = (a : Int) + (i : Int) := by rw [IntKind.wrap_i64]; omega
      have ec44 : ((b : Int) + (i : Int)).toNat = b + i := by omega
      have pc44 : (0 : Int) ≤ (b : Int) + (i : Int) := by omega
      have bc44 : (b : Int) + (i : Int) < (d.size : Int) := by omega
      have rc44 : IntKind.i64.wrap ((b : Int) + (i : Int)) = (b : Int) + (i : Int) := by rw [IntKind.wrap_i64]; omega
      go_wp2_with fail
      have S2 : Aside (SWK enc k w0 blk off (swp dk (a + i) (b + i)) ((wr.drew.setCells blk (off + (a + i) * k) (enc dk[b + i]!)).setCells blk (off + (b + i) * k) (enc dk[a + i]!))) := S1.out.swapped R (a + i) (b + i) (by omega) (by omega)
      have l44a := S1.out.ld1 R (by omega) P (a + i) (by omega)
      have l44b := S1.out.ld1 R (by omega) P (b + i) (by omega)
      have s44a := S1.out.st1 R (by omega) P (a + i) (by omega) dk[b + i]!
      have s44b := S1.out.st2 R (by omega) P (a + i) (b + i) (by omega) (by omega) dk[b + i]! dk[a + i]!
      have n44a : (enc dk[a + i]!).length = k := R.hk _
      have n44b : (enc dk[b + i]!).length = k := R.hk _
      generalize enc dk[a + i]! = cI44 at S2 l44a s44b n44a
      generalize enc dk[b + i]! = cJ44 at S2 l44b s44a s44b n44b
      clear S1
      go_big_region_o
      clear l44a l44b s44a s44b
      generalize (wr.drew.setCells blk (off + (a + i) * k) cJ44).setCells blk (off + (b + i) * k) cI44 = w2 at S2 ⊢
      go_wp2
      go_roundg (n - (i + 1))
      case measure => omega
      case rel =>
        obtain ⟨h1, h2, h3, h4, h5⟩ := HL.out
        obtain ⟨g1, g2, g3, g4, g5⟩ := HA.out
        obtain ⟨x, X3, rfl⟩ : ∃ x l, X2 = x :: l := by
          cases X2 with
          | nil => exfalso; subst h1; simp at g2; omega
          | cons x l => exact ⟨x, l, rfl⟩
        obtain ⟨y, Y3, rfl⟩ : ∃ x l, Y2 = x :: l := by
          cases Y2 with
          | nil => exfalso; subst h2; simp at g4; omega
          | cons x l => exact ⟨x, l, rfl⟩
        subst h1 h2
        refine ⟨i + 1, swp dk (a + i) (b + i), X1 ++ [x], X3, Y1 ++ [y], Y3, by go_num, by omega, Nat.le_refl _, by rw [size_swp]; exact hds, ⟨by simp, by simp, by simp [h3], by simp [h4], ?_⟩, S2⟩
        have hsw := swp_list (d := dk) (p := pre ++ Y1) (q := X3 ++ (M ++ X1)) (r := Y3 ++ post) (x := x) (y := y) (i := a + i) (j := b + i) (by rw [h5]; simp) (by simp; omega) (by simp at g2 ⊢; omega)
        rw [hsw]; simp
    · have hltz : ¬ (i : Int) < (n : Int) := by omega
      go_wp2
      go_end0
      obtain ⟨h1, h2, h3, h4, h5⟩ := HL.out
      obtain ⟨g1, g2, g3, g4, g5⟩ := HA.out
      obtain rfl : X2 = [] := by
        cases X2 with
        | nil => rfl
        | cons x l => exfalso; subst h1; simp at g2; omega
      obtain rfl : Y2 = [] := by
        cases Y2 with
        | nil => rfl
        | cons x l => exfalso; subst h2; simp at g4; omega
      subst h1 h2
      exact ⟨rfl, dk, hds, by rw [h5]; simp, S1.out⟩
end Go.Proofs.Yteccpmmedpkddaa
