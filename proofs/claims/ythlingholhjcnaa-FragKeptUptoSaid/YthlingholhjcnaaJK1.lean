/-
  FragKept: the law's walk.
-/
import Derived.Test.YthlingholhjcnaaJK0
import Derived.Test.YthlingholhjcnaaJG4
namespace Go.Proofs.Ythlingholhjcnaa
open Go.RowKit
variable {W W' w w' : World}
/-- What Join gives, for Items, too. -/
structure JK (w : World) (S : FP) (X : FV) (pp pm pg : Option Addr) (cp cm cg : Nat) : Prop where
  pv : X.pv = .slice pp X.ps.length cp
  mv : X.mv = .slice pm X.ms.length cm
  gv : X.gv = .slice pg X.gs.length cg
  rd : UnRd w X
  pl : X.pl = S
  sm : Sm X 40000
theorem JK.below {S : FP} {X : FV} {pp pm pg : Option Addr} {cp cm cg : Nat} (h : JK w S X pp pm pg cp cm cg) (hb : Below w.heap.size w w') : JK w' S X pp pm pg cp cm cg := ⟨h.pv, h.mv, h.gv, h.rd.below hb, h.pl, h.sm⟩
def JoinK (W : World) (S : FP) (e : Ending) (w' : World) : Prop := ∃ (X : FV) (pp pm pg : Option Addr) (cp cm cg : Nat), e = .returned (.agg #[.slice pp X.ps.length cp, .slice pm X.ms.length cm, .slice pg X.gs.length cg]) ∧ JK w' S X pp pm pg cp cm cg ∧ Below W.heap.size W w'
theorem joinK_any (p : Option Addr) (c : Nat) (l : List UnR) (W : World) (hrow : Row W p (l.flatMap UnR.cells)) (hin : ∀ u ∈ l, UnIn W u) (hlen : l.length ≤ 1000000) (hcost : unCost l ≤ 40000) :
    Calls Try.prog 16 #[.slice p l.length c] W (JoinK W (joinP (l.map UnR.pl))) := by
  refine (join_any p c l W hrow hin hlen (by omega)).mono ?_
  rintro e w' ⟨⟨X, rfl, hF, hp, hs, hfv⟩, hb⟩
  obtain ⟨p0, c0, e0, -⟩ := own_shape hF.parts
  obtain ⟨p1, c1, e1, -⟩ := own_shape hF.marks
  obtain ⟨p2, c2, e2, -⟩ := own_shape hF.globals
  exact ⟨X, p0, p1, p2, c0, c1, c2, by rw [e0, e1, e2], ⟨e0, e1, e2, hF.rd hs (by omega), hp, hs.mono2 hcost⟩, hb⟩
theorem JK.items {S : FP} {X : FV} {pp pm pg : Option Addr} {cp cm cg : Nat} (h : JK w S X pp pm pg cp cm cg) (i : Nat) (y : PtR) (hy : X.ps[i]? = some y) :
    Calls Try.prog 17 #[.agg #[.slice pp X.ps.length cp, .slice pm X.ms.length cm, .slice pg X.gs.length cg], .int .i64 (i : Nat)] w fun e w' => ∃ p c, e = .returned (.slice p y.pieces.l.length c) ∧ Below w.heap.size w w' := by
  have := items_any h.rd i y hy (by have := h.sm.pcs y (List.mem_of_getElem? hy); omega)
  rw [h.pv, h.mv, h.gv] at this
  refine this.mono ?_
  rintro e w' ⟨p, c, rfl, -, hb⟩
  exact ⟨p, c, rfl, hb⟩
theorem unPcs_le : ∀ l : List UnR, unPcs l ≤ unCost l
  | [] => Nat.le_refl _
  | u :: l => by
    have h1 := unPcs_le l
    have h2 := ptCost_eq u.parts.l
    have h3 : u.cost = ptCost u.parts.l + u.marks.l.length + u.globals.l.length := rfl
    unfold unPcs unCost at h1 ⊢
    simp only [List.map_cons, List.sum_cons]
    omega
/-- As oneRd, and how much room the parts' slices have. -/
def OneC (W : World) (S : FP) (e : Ending) (w5 : World) : Prop := ∃ pp pm pg pf np nm ng nf cp cm cg cf X, e = .returned (.tuple #[.agg #[.slice pp np cp, .slice pm nm cm, .slice pg ng cg], .slice pf nf cf]) ∧ OnX w5 S pp pm pg pf np nm ng nf cp cm cg cf X ∧ (∀ y ∈ X.ps, y.pieces.l.length ≤ y.pieces.c) ∧ Below W.heap.size W w5
theorem oneCd {W : World} {S : FP} {n : Nat} {p : Option Addr} {c m : Nat} {file : Int} {f : FuncId} (hn : n ≤ 1000000000000) (h : Calls Try.prog f #[.int .i64 file, .slice p m c] W (OneT W S n)) :
    Calls Try.prog f #[.int .i64 file, .slice p m c] W (OneC W S) := by
  refine h.mono ?_
  rintro e w5 ⟨⟨X, rfl, h5, hp5, hs5⟩, hb5⟩
  have hrd := h5.rd hs5 hn
  obtain ⟨p0, c0, e0, -⟩ := hrd.pv
  obtain ⟨p1, c1, e1, -⟩ := hrd.mv
  obtain ⟨p2, c2, e2, -⟩ := hrd.gv
  obtain ⟨p3, c3, e3, -⟩ := hrd.fv
  refine ⟨p0, p1, p2, p3, _, _, _, _, c0, c1, c2, c3, X, by rw [e0, e1, e2, e3], ⟨e0, e1, e2, e3, hrd, hp5⟩, fun y hy => ?_, hb5⟩
  obtain ⟨i, hi, rfl⟩ := List.getElem_of_mem hy
  obtain ⟨q, cq, eq, hq, -⟩ := own_row (h5.pcs i _ (List.getElem?_eq_getElem hi))
  have eq : Value.slice X.ps[i].pieces.p X.ps[i].pieces.l.length X.ps[i].pieces.c = .slice q X.ps[i].pieces.l.length cq := eq
  cases eq
  exact hq
set_option maxRecDepth 40000 in
set_option maxHeartbeats 8000000 in
theorem kept_walk (W : World) (ls : Sl UnR) (hls : SlOk W UnR.cells 72 ls) (hok : ∀ u ∈ ls.l, u.ok W) (rows : Sl RwR) {bytes : Nat} (hr : SlOk W RwR.cells bytes rows) (hrok : ∀ r ∈ rows.l, r.ok W) (hcost : costs rows.l ≤ 3000000) :
    Calls Try.prog 5 #[.slice ls.p ls.l.length ls.c, .slice rows.p rows.l.length rows.c] W fun e w' => e = .returned (.bool true) ∧ Below W.heap.size W w' := by
  obtain ⟨p, c, l⟩ := ls
  obtain ⟨rp, rc, rl⟩ := rows
  dsimp only at *
  have hcap := hls.cap
  dsimp only at hcap
  have HBG := hid begun_any
  have HFEW : Hid (∀ w, Below W.heap.size W w → Calls Try.prog 15 #[.slice p l.length c] w (FewT l w)) := fun w hb => fewU_any p c l w (hls.row.below hb) (fun u hu => (hok u hu).below hb) hls.len (by omega)
  have HSH := hid (shortR rp rl.length rc)
  have HONE : Hid (∀ w, Below W.heap.size W w → rl.length ≤ 300 → Calls Try.prog 9 #[.int .i64 0, .slice rp rl.length rc] w (OneC w (FP.rows 0 rl).1)) := fun w hb hl => oneCd (by omega) (one_any 0 rp rc rl w (hr.row.below hb) (fun r hr => ((hrok r hr).s.below hb)) (by omega) hcost)
  have HROW := hid hls.row
  have HOK := hid hok
  have HRR := hid hr.row
  have HRL : Hid (rl.length ≤ rc) := hr.len
  obtain ⟨n, hn⟩ : ∃ n, n = l.length := ⟨_, rfl⟩
  obtain ⟨nr, hnr⟩ : ∃ nr, nr = rl.length := ⟨_, rfl⟩
  have HN := hid hn
  have HNR := hid hnr
  rw [← hn] at HFEW ⊢
  rw [← hnr] at HSH HONE HRL ⊢
  clear hls hok hr hrok hcost hn hnr hcap
  go_enter Try.func5, Try.ntmps5
  go_upto_region 1 with (fail)
  go_wp2_with (go_at_call 7; go_loud ((with_reducible refine (HBG.out _).mono ?_); rintro e w2 ⟨rfl, hb2⟩; have HB2 := hid hb2; clear hb2))
  rename World => w2
  refine (HFEW.out w2 HB2.out).mono ?_
  rintro e w3 ⟨⟨bb, rfl, hbb, hb3⟩⟩
  have HB3 := hid (HB2.out.trans (hb3.mono HB2.out.size))
  clear hb3
  dsimp only
  cases bb with
  | false =>
    go_wp2_with (go_at_call 7; go_loud ((with_reducible refine (HBG.out _).mono ?_); rintro e w4 ⟨rfl, hb4⟩; have HB4 := hid (HB3.out.trans (hb4.mono HB3.out.size)); clear hb4))
    go_ret
    exact ⟨rfl, HB4.out⟩
  | true =>
    by_cases hs : nr ≤ 300
    · have hds : decide (nr ≤ 300) = true := by simpa using hs
      obtain ⟨hl40, hc4⟩ := hbb rfl
      have HC4 := hid hc4
      have HJN : Hid (∀ w, Below W.heap.size W w → Calls Try.prog 16 #[.slice p n c] w (JoinK w (joinP (l.map UnR.pl)))) := fun w hb => by
        rw [HN.out]
        exact joinK_any p c l w (HROW.out.below hb) (fun u hu => (uok_uin HOK.out hc4 u hu).below hb) (by omega) hc4
      rw [← HN.out] at hl40
      clear hbb hc4
      go_upto_region 3 with (go_at_call 8; go_loud ((with_reducible refine (HSH.out _).mono ?_); rintro e w9 ⟨rfl, rfl⟩))
      go_wp2_with (fail)
      rename World => w3
      refine (HJN.out w3 HB3.out).mono ?_
      rintro e w5 ⟨X, pp, pm, pg, cp, cm, cg, rfl, hx, hb5⟩
      obtain ⟨w6, hw6⟩ : ∃ w6, w6 = w5.alloc (.cells #[.slice pp X.ps.length cp, .slice pm X.ms.length cm, .slice pg X.gs.length cg] 32) := ⟨_, rfl⟩
      have HW6 := hid hw6
      have HB5 := hid (HB3.out.trans (hb5.mono HB3.out.size))
      have HB6 : Hid (Below W.heap.size W w6) := by rw [hw6]; exact HB5.out.alloc HB5.out.size _
      have HX6 : Hid (JK w6 (joinP (l.map UnR.pl)) X pp pm pg cp cm cg) := by rw [hw6]; exact hx.below (alloc_below _ _)
      have HU6 : Hid (w6.heap[w5.heap.size]? = some (.cells #[.slice pp X.ps.length cp, .slice pm X.ms.length cm, .slice pg X.gs.length cg] 32 (0, 0))) := by rw [hw6]; exact heap_alloc_new _ _
      have HPZ : Hid (pcSum X.ps = unPcs l) := by
        have h1 := pz_join l
        rw [← hx.pl] at h1
        rw [← h1]
        exact (pz_pl X.ps).symm
      have HUP : Hid (unPcs l ≤ 40000) := by
        have h1 := HC4.out
        have h2 := unPcs_le l
        unfold Hid; omega
      clear hx hb5 hw6
      dsimp only
      go_upto_region 5 with (fail)
      rw [← HW6.out]
      obtain ⟨ub, hub⟩ : ∃ ub, ub = w5.heap.size := ⟨_, rfl⟩
      rw [← hub] at HU6 ⊢
      clear hub HW6
      obtain ⟨NX, hNX⟩ : ∃ NX, NX = X.ps.length := ⟨_, rfl⟩
      have HNX := hid hNX
      have hnx4 : NX ≤ 40000 := by rw [hNX]; exact HX6.out.sm.ps
      clear hNX
      go_wp2_with (fail)
      go_loopw [6, 37] (fun nv i wr => ∃ (k : Nat), k ≤ n ∧ i = .int .i64 k ∧ nv = .int .i64 (unPcs (l.take k) : Nat) ∧ Below w6.heap.size w6 wr) (fun _ i _ => n - (intOf i).toNat)
      case atStart => exact ⟨0, Nat.zero_le _, rfl, rfl, Below.refl _ _⟩
      case round =>
        rename World => wr
        obtain ⟨k, hk, rfl, rfl, hb⟩ := hrel
        have HB := hid hb
        obtain ⟨a, ha⟩ : ∃ a, a = unPcs (l.take k) := ⟨_, rfl⟩
        have HA := hid ha
        rw [← ha]
        clear ha
        by_cases hlt : k < n
        · have hkI : (k : Int) < n := by omega
          have hkl : k < l.length := by rw [← HN.out]; exact hlt
          have hbW : Below W.heap.size W wr := HB6.out.trans (hb.mono HB6.out.size)
          have hrow := HROW.out.below hbW
          obtain ⟨b, o, rfl, hbl, -⟩ := hrow.at (by rw [flat_len UnR.cells 3 (fun _ => rfl)]; omega)
          obtain ⟨u0, u1, u2⟩ := unr_cells hrow k hkl
          have HUK := hid ((HOK.out _ (List.getElem_mem hkl)).below hbW)
          have HTK : Hid (unPcs (l.take (k + 1)) = unPcs (l.take k) + pcSum l[k].parts.l) := sum_take (fun u : UnR => pcSum u.parts.l) l k hkl
          have HTL : Hid (unPcs (l.take (k + 1)) ≤ unPcs l) := sum_le (fun u : UnR => pcSum u.parts.l) l (k + 1)
          have HCK : Hid (l[k].cost ≤ unCost l) := by
            have e1 := sum_take UnR.cost l k hkl
            have e2 := sum_le UnR.cost l (k + 1)
            unfold unCost Hid; omega
          generalize l[k] = u at *
          unfold Sl.val at u0 u1 u2
          obtain ⟨W5, hW5⟩ : ∃ W5, W5 = wr.alloc (.cells #[.slice u.parts.p u.parts.l.length u.parts.c, .slice u.marks.p u.marks.l.length u.marks.c, .slice u.globals.p u.globals.l.length u.globals.c] 32) := ⟨_, rfl⟩
          have HW5 := hid hW5
          have hb5 : Below wr.heap.size wr W5 := by rw [hW5]; exact alloc_below _ _
          have hx5 : W5.heap[wr.heap.size]? = some (.cells #[.slice u.parts.p u.parts.l.length u.parts.c, .slice u.marks.p u.marks.l.length u.marks.c, .slice u.globals.p u.globals.l.length u.globals.c] 32 (0, 0)) := by rw [hW5]; exact heap_alloc_new _ _
          obtain ⟨v0, v1, v2⟩ := un_cells hx5
          have HB7 : Hid (Below w6.heap.size w6 W5) := hb.trans (hb5.mono hb.size)
          have HPR := hid (HUK.out.parts.1.row.below hb5)
          obtain ⟨NP, hNP⟩ : ∃ NP, NP = u.parts.l.length := ⟨_, rfl⟩
          have HNP := hid hNP
          have hnp4 : NP ≤ 40000 := by
            have h1 := HCK.out; have h2 := HC4.out; have h3 := ptCost_ge u.parts.l
            have h4 : u.cost = ptCost u.parts.l + u.marks.l.length + u.globals.l.length := rfl
            omega
          rw [← hNP] at v0
          clear hb hrow hb5 hx5 hW5 hNP hbW
          go_upto_region 8 with (fail)
          rw [← HW5.out]
          clear u0 u1 u2
          go_wp2_with (fail)
          go_loopw [6, 44] (fun nv i wy => ∃ (j : Nat), j ≤ NP ∧ i = .int .i64 j ∧ nv = .int .i64 ((unPcs (l.take k) + pcSum (u.parts.l.take j) : Nat) : Int) ∧ Below w6.heap.size w6 wy ∧ Row wy u.parts.p (u.parts.l.flatMap PtR.cells)) (fun _ i _ => NP - (intOf i).toNat)
          case atStart => exact ⟨0, Nat.zero_le _, rfl, by rw [HA.out]; rfl, HB7.out, HPR.out⟩
          case round =>
            rename World => wy
            obtain ⟨j, hj, rfl, rfl, hby, hpr⟩ := hrel
            have HBY := hid hby
            have HPRY := hid hpr
            obtain ⟨a2, ha2⟩ : ∃ a2, a2 = unPcs (l.take k) + pcSum (u.parts.l.take j) := ⟨_, rfl⟩
            have HA2 := hid ha2
            rw [← ha2]
            clear ha2
            by_cases hjl : j < NP
            · have hjI : (j : Int) < NP := by omega
              have hjl2 : j < u.parts.l.length := by rw [← HNP.out]; exact hjl
              obtain ⟨pb0, po, hpe, -, -⟩ := hpr.at (by rw [flat_len PtR.cells 4 (fun _ => rfl)]; omega)
              rw [hpe] at hpr
              obtain ⟨p0, p1, p2, p3⟩ := pt_ex hpr j hjl2
              rw [hpe]
              have HTJ : Hid (pcSum (u.parts.l.take (j + 1)) = pcSum (u.parts.l.take j) + u.parts.l[j].pieces.l.length) := sum_take (fun y : PtR => y.pieces.l.length) u.parts.l j hjl2
              have HTM : Hid (pcSum (u.parts.l.take (j + 1)) ≤ pcSum u.parts.l) := sum_le (fun y : PtR => y.pieces.l.length) u.parts.l (j + 1)
              generalize u.parts.l[j] = y at *
              obtain ⟨NQ, hNQ⟩ : ∃ NQ, NQ = y.pieces.l.length := ⟨_, rfl⟩
              have HNQ := hid hNQ
              rw [← hNQ] at p3
              have hsum : a2 + NQ ≤ 40000 := by
                have h1 := HA2.out; have h2 := HTJ.out; have h3 := HTM.out; have h4 := HTK.out; have h5 := HTL.out; have h6 := HUP.out
                omega
              have HRJ : Hid (a2 + NQ = unPcs (l.take k) + pcSum (u.parts.l.take (j + 1))) := by
                have h1 := HA2.out; have h2 := HTJ.out
                unfold Hid; omega
              have HPE := hid hpe
              clear hby hpr hpe hNQ
              go_wp2_with fail
              exact ⟨⟨j + 1, by omega, by go_num, by rw [← HRJ.out]; simp, HBY.out.alloc HBY.out.size _, by rw [← HPE.out]; exact HPRY.out.alloc _⟩, by simp [intOf]; omega⟩
            · have hje : j = NP := by omega
              subst hje
              have HRK : Hid (a2 = unPcs (l.take (k + 1))) := by
                unfold Hid
                rw [HA2.out, HTK.out, show u.parts.l.take j = u.parts.l from List.take_of_length_le (by rw [HNP.out]; exact Nat.le_refl _)]
              clear hby hpr
              go_wp2_with fail
              exact ⟨⟨k + 1, by omega, by go_num, by rw [← HRK.out], HBY.out⟩, by simp [intOf]; omega⟩
        · have hke : k = n := by omega
          subst hke
          have HAF : Hid (a = unPcs l) := by unfold Hid; rw [HA.out, List.take_of_length_le (by rw [HN.out]; exact Nat.le_refl _)]
          have hu7 := (hb.block _ (Array.getElem?_eq_some_iff.1 HU6.out).1).trans HU6.out
          obtain ⟨v0, v1, v2⟩ := un_cells hu7
          rw [← HNX.out] at v0
          have ha4 : a ≤ 40000 := by have h1 := HAF.out; have h2 := HUP.out; omega
          clear hb hu7
          go_wp2_with fail
          go_loopw [7, 58] (fun mv i wr2 => ∃ (j : Nat), j ≤ NX ∧ i = .int .i64 j ∧ mv = .int .i64 (pcSum (X.ps.take j) : Nat) ∧ Below w6.heap.size w6 wr2) (fun _ i _ => NX - (intOf i).toNat)
          case atStart => exact ⟨0, Nat.zero_le _, rfl, rfl, HB.out⟩
          case round =>
            rename World => wr2
            obtain ⟨j, hj, rfl, rfl, hb2⟩ := hrel
            have HB2 := hid hb2
            obtain ⟨a2, ha2⟩ : ∃ a2, a2 = pcSum (X.ps.take j) := ⟨_, rfl⟩
            have HA2 := hid ha2
            rw [← ha2]
            clear ha2
            by_cases hjl : j < NX
            · have hjI : (j : Int) < NX := by omega
              have hjl2 : j < X.ps.length := by rw [← HNX.out]; exact hjl
              have hx2 := HX6.out.below hb2
              obtain ⟨pp0, cp0, epv, hpr⟩ := hx2.rd.pv
              rw [hx2.pv] at epv
              cases epv
              obtain ⟨pb0, po, hpe, -, -⟩ := hpr.at (by rw [flat_len PtR.cells 4 (fun _ => rfl)]; omega)
              rw [hpe] at hpr
              obtain ⟨p0, p1, p2, p3⟩ := pt_ex hpr j hjl2
              rw [hpe]
              have HTJ : Hid (pcSum (X.ps.take (j + 1)) = pcSum (X.ps.take j) + X.ps[j].pieces.l.length) := sum_take (fun y : PtR => y.pieces.l.length) X.ps j hjl2
              have HTM : Hid (pcSum (X.ps.take (j + 1)) ≤ pcSum X.ps) := sum_le (fun y : PtR => y.pieces.l.length) X.ps (j + 1)
              have HYJ : Hid (X.ps[j]? = some X.ps[j]) := List.getElem?_eq_getElem hjl2
              generalize X.ps[j] = y at *
              obtain ⟨W5, hW5⟩ : ∃ W5, W5 = wr2.alloc (.cells #[.string y.name, .int .i64 y.file, .int .i64 y.line, .slice y.pieces.p y.pieces.l.length y.pieces.c] 50) := ⟨_, rfl⟩
              have HW5 := hid hW5
              have hb5 : Below wr2.heap.size wr2 W5 := by rw [hW5]; exact alloc_below _ _
              have hx5 : W5.heap[wr2.heap.size]? = some (.cells #[.string y.name, .int .i64 y.file, .int .i64 y.line, .slice y.pieces.p y.pieces.l.length y.pieces.c] 50 (0, 0)) := by rw [hW5]; exact heap_alloc_new _ _
              have q3 := cell_of_row _ _ 3 _ _ _ hx5
              simp only [List.getElem?_toArray, List.getElem?_cons_zero, List.getElem?_cons_succ] at q3
              obtain ⟨NQ, hNQ⟩ : ∃ NQ, NQ = y.pieces.l.length := ⟨_, rfl⟩
              have HNQ := hid hNQ
              rw [← hNQ] at q3
              have HB5 : Hid (Below w6.heap.size w6 W5) := hb2.trans (hb5.mono hb2.size)
              have hsum : a2 + NQ ≤ 40000 := by
                have h1 := HA2.out; have h2 := HTJ.out; have h3 := HTM.out; have h4 := HPZ.out; have h5 := HUP.out
                omega
              have HRJ : Hid (a2 + NQ = pcSum (X.ps.take (j + 1))) := by
                have h1 := HA2.out; have h2 := HTJ.out
                unfold Hid; omega
              have HPE := hid hpe
              have hpl2 : ub ≠ wr2.heap.size := by have := (Array.getElem?_eq_some_iff.1 HU6.out).1; have := hb2.size; omega
              have HX5 : Hid (W5.heap[wr2.heap.size]? = some (.cells #[.string y.name, .int .i64 y.file, .int .i64 y.line, .slice y.pieces.p NQ y.pieces.c] 50 (0, 0))) := by rw [hNQ]; exact hx5
              have HUB5 : Hid (W5.heap[ub]? = some (.cells #[.slice pp X.ps.length cp, .slice pm X.ms.length cm, .slice pg X.gs.length cg] 32 (0, 0))) := (HB5.out.block _ (Array.getElem?_eq_some_iff.1 HU6.out).1).trans HU6.out
              clear hb2 hpr hx2 hb5 hx5 hW5 hpe hNQ
              go_upto_region 17 with (fail)
              rw [← HW5.out]
              clear p0 p1 p2 p3
              go_upto_region 18 with (fail)
              go_cut [75] from 68 to 74 (fun v wx => v = .bool false ∧ Below w6.heap.size w6 wx)
              case first =>
                obtain ⟨wd, hwd⟩ : ∃ wd, wd = W5.drew := ⟨_, rfl⟩
                have hbd : Below w6.heap.size w6 wd := by rw [hwd]; exact HB5.out.drew
                have HBD := hid hbd
                have hud : wd.heap[ub]? = some (.cells #[.slice pp X.ps.length cp, .slice pm X.ms.length cm, .slice pg X.gs.length cg] 32 (0, 0)) := by rw [hwd]; exact HUB5.out
                have hxd : wd.heap[wr2.heap.size]? = some (.cells #[.string y.name, .int .i64 y.file, .int .i64 y.line, .slice y.pieces.p NQ y.pieces.c] 50 (0, 0)) := by rw [hwd]; exact HX5.out
                have HIT := hid ((HX6.out.below hbd).items j y HYJ.out)
                rw [← HNQ.out] at HIT
                have hul : ub < wd.heap.size := (Array.getElem?_eq_some_iff.1 hud).1
                have hxl : wr2.heap.size < wd.heap.size := (Array.getElem?_eq_some_iff.1 hxd).1
                have HUD := hid hud
                have HXD := hid hxd
                have k0 : ∀ w : World, SameAt ub wr2.heap.size wd w → w.cell? ⟨ub, 0, none⟩ = some (.slice pp X.ps.length cp) := fun w h => (un_cells (h.a.trans HUD.out)).1
                have k1 : ∀ w : World, SameAt ub wr2.heap.size wd w → w.cell? ⟨ub, 1, none⟩ = some (.slice pm X.ms.length cm) := fun w h => (un_cells (h.a.trans HUD.out)).2.1
                have k2 : ∀ w : World, SameAt ub wr2.heap.size wd w → w.cell? ⟨ub, 2, none⟩ = some (.slice pg X.gs.length cg) := fun w h => (un_cells (h.a.trans HUD.out)).2.2
                have k3 : ∀ w : World, SameAt ub wr2.heap.size wd w → w.cell? ⟨wr2.heap.size, 3, none⟩ = some (.slice y.pieces.p NQ y.pieces.c) := fun w h => cell_of_row _ _ 3 _ _ _ (h.b.trans HXD.out)
                have HH0 : Hid (SameAt ub wr2.heap.size wd wd) := ⟨Nat.le_refl _, rfl, rfl⟩
                have HSB : Hid (∀ w', Below wd.heap.size wd w' → SameAt ub wr2.heap.size wd w') := fun w' hb => ⟨hb.size, hb.block _ hul, hb.block _ hxl⟩
                have hnn : ((NQ : Int) != (NQ : Int)) = false := by simp
                clear hbd hud hxd
                refine wp_region_held_drew (S := SameAt ub wr2.heap.size wd) (by kernel_rfl) (by rw [← hwd]; exact HH0.out) (fun hHeld => ?_)
                rw [← hwd] at *
                refine wpAnyH_take (i := 0) (oi := { dst := some 68, op := Op.load 32 (Operand.tmp 5), type := 32, pos := "law.go:132", after := #[], guard := none }) (v := ?pav0) rfl (by kernel_rfl) (by kernel_rfl) (by kernel_rfl) (fun _ _ _ h => h) (Or.inl ⟨by rfl, ?pah0⟩) (by assumption) ?par0
                case pah0 => ((intro w hSw; (try dsimp only at hSw); go_simp); try with_reducible rfl)
                try simp only [Act.put, List.setIfInBounds_toArray, List.set_cons_zero, List.set_cons_succ]
                refine wpAnyH_take (i := 1) (oi := { dst := some 69, op := Op.move (Operand.tmp 12), type := 3, pos := "law.go:132", after := #[], guard := none }) (v := ?pav1) rfl (by kernel_rfl) (by kernel_rfl) (by kernel_rfl) (fun _ _ _ h => h) (Or.inl ⟨by rfl, ?pah1⟩) (by assumption) ?par1
                case pah1 => ((intro w hSw; (try dsimp only at hSw); go_simp); try with_reducible rfl)
                try simp only [Act.put, List.setIfInBounds_toArray, List.set_cons_zero, List.set_cons_succ]
                refine wpAnyH_take (i := 4) (oi := { dst := some 72, op := Op.fieldAddr 50 (Operand.tmp 13) 3, type := 0, pos := "law.go:132", after := #[], guard := none }) (v := ?pav4) rfl (by kernel_rfl) (by kernel_rfl) (by kernel_rfl) (fun _ _ _ h => h) (Or.inl ⟨by rfl, ?pah4⟩) (by assumption) ?par4
                case pah4 => ((intro w hSw; (try dsimp only at hSw); go_simp); try with_reducible rfl)
                try simp only [Act.put, List.setIfInBounds_toArray, List.set_cons_zero, List.set_cons_succ]
                refine wpAnyH_take (i := 5) (oi := { dst := some 73, op := Op.load 48 (Operand.tmp 72), type := 48, pos := "law.go:132", after := #[{ on := 4, ground := Ground.data }], guard := none }) (v := ?pav5) rfl (by kernel_rfl) (by kernel_rfl) (by kernel_rfl) (fun _ _ _ h => h) (Or.inl ⟨by rfl, ?pah5⟩) (by assumption) ?par5
                case pah5 => ((intro w hSw; (try dsimp only at hSw); go_simp); try with_reducible rfl)
                try simp only [Act.put, List.setIfInBounds_toArray, List.set_cons_zero, List.set_cons_succ]
                refine wpAnyH_take (i := 6) (oi := { dst := some 74, op := Op.call { callee := Callee.builtin Builtin.len, args := #[Operand.tmp 73], argTypes := #[48] }, type := 3, pos := "law.go:132", after := #[{ on := 5, ground := Ground.data }], guard := none }) (v := ?pav6) rfl (by kernel_rfl) (by kernel_rfl) (by kernel_rfl) (fun _ _ _ h => h) (Or.inl ⟨by rfl, ?pah6⟩) (by assumption) ?par6
                case pah6 => ((intro w hSw; (try dsimp only at hSw); go_simp); try with_reducible rfl)
                try simp only [Act.put, List.setIfInBounds_toArray, List.set_cons_zero, List.set_cons_succ]
                refine wpAnyH_ready (rs := [2]) (by kernel_rfl) (by simp) ?_
                refine AllReadyH.cons (o := { dst := some 70, op := Op.call { callee := Callee.value (Operand.func 17), args := #[Operand.tmp 68, Operand.tmp 69], argTypes := #[32, 3] }, type := 51, pos := "law.go:132", after := #[{ on := 0, ground := Ground.data }, { on := 1, ground := Ground.data }], guard := none }) rfl (fun K hK => ?_) AllReadyH.nil
                go_simp; go_at_call 17; (with_reducible refine HIT.out.mono ?_); rintro e1 wi ⟨ip, ic, rfl, hbi⟩; have HSI := hid (HSB.out _ hbi); have HBI := hid (HBD.out.trans (hbi.mono HBD.out.size)); clear hbi; refine hK.out _ _ HSI.out (fun hHeld => ?_)
                clear hK K
                try simp only [Act.put, List.setIfInBounds_toArray, List.set_cons_zero, List.set_cons_succ]
                refine wpAnyH_take (i := 3) (oi := { dst := some 71, op := Op.call { callee := Callee.builtin Builtin.len, args := #[Operand.tmp 70], argTypes := #[51] }, type := 3, pos := "law.go:132", after := #[{ on := 2, ground := Ground.data }], guard := none }) (v := ?pav3) rfl (by kernel_rfl) (by kernel_rfl) (by kernel_rfl) (fun _ _ _ h => h) (Or.inl ⟨by rfl, ?pah3⟩) (by assumption) ?par3
                case pah3 => ((intro w hSw; (try dsimp only at hSw); go_simp); try with_reducible rfl)
                try simp only [Act.put, List.setIfInBounds_toArray, List.set_cons_zero, List.set_cons_succ]
                refine wpAnyH_take (i := 7) (oi := { dst := some 75, op := Op.binOp BinOp.neq 3 (Operand.tmp 71) (Operand.tmp 74) 3, type := 4, pos := "law.go:132", after := #[{ on := 3, ground := Ground.data }, { on := 6, ground := Ground.data }], guard := none }) (v := ?pav7) rfl (by kernel_rfl) (by kernel_rfl) (by kernel_rfl) (fun _ _ _ h => h) (Or.inl ⟨by rfl, ?pah7⟩) (by assumption) ?par7
                case pah7 => ((intro w hSw; (try dsimp only at hSw); go_simp); try with_reducible rfl)
                try simp only [Act.put, List.setIfInBounds_toArray, List.set_cons_zero, List.set_cons_succ]
                refine wpAnyH_done (by kernel_rfl) ?_ _
                go_wp2_with fail
                go_meet
                exact ⟨by simp, HBI.out⟩
              case rest =>
                rename World => w8
                obtain ⟨rfl, hb8⟩ := hcut
                have HB8 := hid hb8
                clear hb8
                go_wp2_with fail
                exact ⟨⟨j + 1, by omega, by go_num, by rw [← HRJ.out]; simp, HB8.out⟩, by simp [intOf]; omega⟩
            · have hje : j = NX := by omega
              subst hje
              have HE : Hid (a2 = a) := by unfold Hid; rw [HA2.out, HAF.out, ← HPZ.out, List.take_of_length_le (by rw [HNX.out]; exact Nat.le_refl _)]
              have hne : ((a : Int) != (a2 : Int)) = false := by rw [HE.out]; simp
              have hmax : max ((nr : Int) - 1) 0 = ((nr - 1 : Nat) : Int) := by omega
              obtain ⟨mr, hmr⟩ : ∃ mr, mr = nr - 1 := ⟨_, rfl⟩
              have HMR := hid hmr
              rw [← hmr] at hmax
              have hmrc : mr ≤ rc := by have := HRL.out; omega
              have hmrI : (mr : Int) ≤ rc := by omega
              have hmrn : mr ≤ nr := by omega
              have hbW2 : Below W.heap.size W wr2 := HB6.out.trans (hb2.mono HB6.out.size)
              have HBW2 := hid hbW2
              clear hb2 v0 v1 v2 hmr hbW2
              go_wp2_with fail
              go_loopw [87] (fun i wr3 => ∃ (t : Nat), t ≤ mr ∧ i = .int .i64 t ∧ (∀ q (h : q + 1 < rl.length), q < t → rl[q].line ≤ rl[q + 1].line) ∧ Below W.heap.size W wr3) (fun i _ => mr - (intOf i).toNat)
              case atStart => exact ⟨0, Nat.zero_le _, rfl, (fun q h h2 => absurd h2 (by omega)), HBW2.out⟩
              case round =>
                rename World => wr3
                obtain ⟨t, ht, rfl, hsr, hb3⟩ := hrel
                have HSR := hid hsr
                have HB3' := hid hb3
                by_cases htl : t < mr
                · have htI : (t : Int) < mr := by omega
                  have htn : (t : Int) < nr := by omega
                  obtain ⟨t1, ht1⟩ : ∃ t1, t1 = t + 1 := ⟨_, rfl⟩
                  have HT1 := hid ht1
                  have htn1 : (t1 : Int) < nr := by have := HMR.out; omega
                  have hwt : IntKind.i64.wrap ((t : Int) + 1) = (t1 : Nat) := by rw [IntWalk.i64_in _ (by omega)]; omega
                  have htl1 : t + 1 < rl.length := by have := HMR.out; have := HNR.out; omega
                  have htl0 : t < rl.length := by omega
                  have hrr := HRR.out.below hb3
                  obtain ⟨rb, ro, rfl, hrbl, -⟩ := hrr.at (by rw [flat_len RwR.cells 9 (fun _ => rfl)]; omega)
                  have c0 := (rwr_cells hrr t htl0).1
                  have c1 := (rwr_cells hrr (t + 1) htl1).1
                  have HLN : Hid (∀ q (h : q + 1 < rl.length), q < t + 1 → (q = t → rl[t].line ≤ rl[t + 1].line) → rl[q].line ≤ rl[q + 1].line) := fun q h h2 h3 => by
                    by_cases e : q = t
                    · subst e; exact h3 rfl
                    · exact HSR.out q h (by omega)
                  obtain ⟨la, hla⟩ : ∃ la, la = rl[t].line := ⟨_, rfl⟩
                  obtain ⟨lb, hlb⟩ : ∃ lb, lb = rl[t + 1].line := ⟨_, rfl⟩
                  rw [← hla] at c0
                  rw [← hlb, ← ht1] at c1
                  have HLA := hid (And.intro hla hlb)
                  have k0 : ∀ w : World, SameH wr3 w → w.cell? ⟨rb, ro + t * 9, none⟩ = some (.int .i64 la) := fun w h => h.cell c0
                  have k1 : ∀ w : World, SameH wr3 w → w.cell? ⟨rb, ro + t1 * 9, none⟩ = some (.int .i64 lb) := fun w h => h.cell c1
                  have HH0 : Hid (SameH wr3 wr3.drew) := rfl
                  clear hsr hb3 hrr hla hlb c0 c1 ht1
                  by_cases hgt : lb < la
                  · have dg : decide (lb < la) = true := by simpa using hgt
                    go_upto_region 26 with (fail)
                    refine wp_region_held_drew (S := SameH wr3) (by kernel_rfl) HH0.out (fun hHeld => ?_)
                    refine wpAnyH_take (i := 0) (oi := { dst := some 90, op := Op.move (Operand.tmp 1), type := 22, pos := "law.go:140", after := #[], guard := none }) (v := ?pbv0) rfl (by kernel_rfl) (by kernel_rfl) (by kernel_rfl) (fun _ _ _ h => h) (Or.inl ⟨by rfl, ?pbh0⟩) (by assumption) ?pbr0
                    case pbh0 => ((intro w hSw; (try dsimp only at hSw); go_simp); try with_reducible rfl)
                    try simp only [Act.put, List.setIfInBounds_toArray, List.set_cons_zero, List.set_cons_succ]
                    refine wpAnyH_take (i := 1) (oi := { dst := some 91, op := Op.move (Operand.tmp 14), type := 3, pos := "law.go:140", after := #[], guard := none }) (v := ?pbv1) rfl (by kernel_rfl) (by kernel_rfl) (by kernel_rfl) (fun _ _ _ h => h) (Or.inl ⟨by rfl, ?pbh1⟩) (by assumption) ?pbr1
                    case pbh1 => ((intro w hSw; (try dsimp only at hSw); go_simp); try with_reducible rfl)
                    try simp only [Act.put, List.setIfInBounds_toArray, List.set_cons_zero, List.set_cons_succ]
                    refine wpAnyH_take (i := 2) (oi := { dst := some 92, op := Op.indexAddr 22 (Operand.tmp 90) (Operand.tmp 91), type := 0, pos := "law.go:140", after := #[{ on := 0, ground := Ground.data }, { on := 1, ground := Ground.data }], guard := none }) (v := ?pbv2) rfl (by kernel_rfl) (by kernel_rfl) (by kernel_rfl) (fun _ _ _ h => h) (Or.inl ⟨by rfl, ?pbh2⟩) (by assumption) ?pbr2
                    case pbh2 => ((intro w hSw; (try dsimp only at hSw); go_simp); try with_reducible rfl)
                    try simp only [Act.put, List.setIfInBounds_toArray, List.set_cons_zero, List.set_cons_succ]
                    refine wpAnyH_take (i := 3) (oi := { dst := some 93, op := Op.fieldAddr 59 (Operand.tmp 92) 0, type := 0, pos := "law.go:140", after := #[{ on := 2, ground := Ground.data }], guard := none }) (v := ?pbv3) rfl (by kernel_rfl) (by kernel_rfl) (by kernel_rfl) (fun _ _ _ h => h) (Or.inl ⟨by rfl, ?pbh3⟩) (by assumption) ?pbr3
                    case pbh3 => ((intro w hSw; (try dsimp only at hSw); go_simp); try with_reducible rfl)
                    try simp only [Act.put, List.setIfInBounds_toArray, List.set_cons_zero, List.set_cons_succ]
                    refine wpAnyH_take (i := 4) (oi := { dst := some 94, op := Op.load 3 (Operand.tmp 93), type := 3, pos := "law.go:140", after := #[{ on := 3, ground := Ground.data }], guard := none }) (v := ?pbv4) rfl (by kernel_rfl) (by kernel_rfl) (by kernel_rfl) (fun _ _ _ h => h) (Or.inl ⟨by rfl, ?pbh4⟩) (by assumption) ?pbr4
                    case pbh4 => ((intro w hSw; (try dsimp only at hSw); go_simp); try with_reducible rfl)
                    try simp only [Act.put, List.setIfInBounds_toArray, List.set_cons_zero, List.set_cons_succ]
                    refine wpAnyH_take (i := 5) (oi := { dst := some 95, op := Op.move (Operand.tmp 1), type := 22, pos := "law.go:140", after := #[], guard := none }) (v := ?pbv5) rfl (by kernel_rfl) (by kernel_rfl) (by kernel_rfl) (fun _ _ _ h => h) (Or.inl ⟨by rfl, ?pbh5⟩) (by assumption) ?pbr5
                    case pbh5 => ((intro w hSw; (try dsimp only at hSw); go_simp); try with_reducible rfl)
                    try simp only [Act.put, List.setIfInBounds_toArray, List.set_cons_zero, List.set_cons_succ]
                    refine wpAnyH_take (i := 6) (oi := { dst := some 96, op := Op.move (Operand.tmp 14), type := 3, pos := "law.go:140", after := #[], guard := none }) (v := ?pbv6) rfl (by kernel_rfl) (by kernel_rfl) (by kernel_rfl) (fun _ _ _ h => h) (Or.inl ⟨by rfl, ?pbh6⟩) (by assumption) ?pbr6
                    case pbh6 => ((intro w hSw; (try dsimp only at hSw); go_simp); try with_reducible rfl)
                    try simp only [Act.put, List.setIfInBounds_toArray, List.set_cons_zero, List.set_cons_succ]
                    refine wpAnyH_take (i := 7) (oi := { dst := some 97, op := Op.binOp BinOp.add 3 (Operand.tmp 96) (Operand.const (Value.int IntKind.i64 1)) 3, type := 3, pos := "law.go:140", after := #[{ on := 6, ground := Ground.data }], guard := none }) (v := ?pbv7) rfl (by kernel_rfl) (by kernel_rfl) (by kernel_rfl) (fun _ _ _ h => h) (Or.inl ⟨by rfl, ?pbh7⟩) (by assumption) ?pbr7
                    case pbh7 => ((intro w hSw; (try dsimp only at hSw); go_simp); try with_reducible rfl)
                    try simp only [Act.put, List.setIfInBounds_toArray, List.set_cons_zero, List.set_cons_succ]
                    refine wpAnyH_take (i := 8) (oi := { dst := some 98, op := Op.indexAddr 22 (Operand.tmp 95) (Operand.tmp 97), type := 0, pos := "law.go:140", after := #[{ on := 5, ground := Ground.data }, { on := 7, ground := Ground.data }], guard := none }) (v := ?pbv8) rfl (by kernel_rfl) (by kernel_rfl) (by kernel_rfl) (fun _ _ _ h => h) (Or.inl ⟨by rfl, ?pbh8⟩) (by assumption) ?pbr8
                    case pbh8 => ((intro w hSw; (try dsimp only at hSw); go_simp); try with_reducible rfl)
                    try simp only [Act.put, List.setIfInBounds_toArray, List.set_cons_zero, List.set_cons_succ]
                    refine wpAnyH_take (i := 9) (oi := { dst := some 99, op := Op.fieldAddr 59 (Operand.tmp 98) 0, type := 0, pos := "law.go:140", after := #[{ on := 8, ground := Ground.data }], guard := none }) (v := ?pbv9) rfl (by kernel_rfl) (by kernel_rfl) (by kernel_rfl) (fun _ _ _ h => h) (Or.inl ⟨by rfl, ?pbh9⟩) (by assumption) ?pbr9
                    case pbh9 => ((intro w hSw; (try dsimp only at hSw); go_simp); try with_reducible rfl)
                    try simp only [Act.put, List.setIfInBounds_toArray, List.set_cons_zero, List.set_cons_succ]
                    refine wpAnyH_take (i := 10) (oi := { dst := some 100, op := Op.load 3 (Operand.tmp 99), type := 3, pos := "law.go:140", after := #[{ on := 9, ground := Ground.data }], guard := none }) (v := ?pbv10) rfl (by kernel_rfl) (by kernel_rfl) (by kernel_rfl) (fun _ _ _ h => h) (Or.inl ⟨by rfl, ?pbh10⟩) (by assumption) ?pbr10
                    case pbh10 => ((intro w hSw; (try dsimp only at hSw); go_simp); try with_reducible rfl)
                    try simp only [Act.put, List.setIfInBounds_toArray, List.set_cons_zero, List.set_cons_succ]
                    refine wpAnyH_take (i := 11) (oi := { dst := some 101, op := Op.binOp BinOp.gtr 3 (Operand.tmp 94) (Operand.tmp 100) 3, type := 4, pos := "law.go:140", after := #[{ on := 4, ground := Ground.data }, { on := 10, ground := Ground.data }], guard := none }) (v := ?pbv11) rfl (by kernel_rfl) (by kernel_rfl) (by kernel_rfl) (fun _ _ _ h => h) (Or.inl ⟨by rfl, ?pbh11⟩) (by assumption) ?pbr11
                    case pbh11 => ((intro w hSw; (try dsimp only at hSw); go_simp); try with_reducible rfl)
                    try simp only [Act.put, List.setIfInBounds_toArray, List.set_cons_zero, List.set_cons_succ]
                    refine wpAnyH_done (by kernel_rfl) ?_ _
                    go_wp2_with fail
                    go_ret
                    exact ⟨rfl, HB3'.out.drew⟩
                  · have dg : decide (lb < la) = false := by simpa using hgt
                    have HL1 : Hid (la ≤ lb) := by unfold Hid; omega
                    go_upto_region 26 with (fail)
                    refine wp_region_held_drew (S := SameH wr3) (by kernel_rfl) HH0.out (fun hHeld => ?_)
                    refine wpAnyH_take (i := 0) (oi := { dst := some 90, op := Op.move (Operand.tmp 1), type := 22, pos := "law.go:140", after := #[], guard := none }) (v := ?pcv0) rfl (by kernel_rfl) (by kernel_rfl) (by kernel_rfl) (fun _ _ _ h => h) (Or.inl ⟨by rfl, ?pch0⟩) (by assumption) ?pcr0
                    case pch0 => ((intro w hSw; (try dsimp only at hSw); go_simp); try with_reducible rfl)
                    try simp only [Act.put, List.setIfInBounds_toArray, List.set_cons_zero, List.set_cons_succ]
                    refine wpAnyH_take (i := 1) (oi := { dst := some 91, op := Op.move (Operand.tmp 14), type := 3, pos := "law.go:140", after := #[], guard := none }) (v := ?pcv1) rfl (by kernel_rfl) (by kernel_rfl) (by kernel_rfl) (fun _ _ _ h => h) (Or.inl ⟨by rfl, ?pch1⟩) (by assumption) ?pcr1
                    case pch1 => ((intro w hSw; (try dsimp only at hSw); go_simp); try with_reducible rfl)
                    try simp only [Act.put, List.setIfInBounds_toArray, List.set_cons_zero, List.set_cons_succ]
                    refine wpAnyH_take (i := 2) (oi := { dst := some 92, op := Op.indexAddr 22 (Operand.tmp 90) (Operand.tmp 91), type := 0, pos := "law.go:140", after := #[{ on := 0, ground := Ground.data }, { on := 1, ground := Ground.data }], guard := none }) (v := ?pcv2) rfl (by kernel_rfl) (by kernel_rfl) (by kernel_rfl) (fun _ _ _ h => h) (Or.inl ⟨by rfl, ?pch2⟩) (by assumption) ?pcr2
                    case pch2 => ((intro w hSw; (try dsimp only at hSw); go_simp); try with_reducible rfl)
                    try simp only [Act.put, List.setIfInBounds_toArray, List.set_cons_zero, List.set_cons_succ]
                    refine wpAnyH_take (i := 3) (oi := { dst := some 93, op := Op.fieldAddr 59 (Operand.tmp 92) 0, type := 0, pos := "law.go:140", after := #[{ on := 2, ground := Ground.data }], guard := none }) (v := ?pcv3) rfl (by kernel_rfl) (by kernel_rfl) (by kernel_rfl) (fun _ _ _ h => h) (Or.inl ⟨by rfl, ?pch3⟩) (by assumption) ?pcr3
                    case pch3 => ((intro w hSw; (try dsimp only at hSw); go_simp); try with_reducible rfl)
                    try simp only [Act.put, List.setIfInBounds_toArray, List.set_cons_zero, List.set_cons_succ]
                    refine wpAnyH_take (i := 4) (oi := { dst := some 94, op := Op.load 3 (Operand.tmp 93), type := 3, pos := "law.go:140", after := #[{ on := 3, ground := Ground.data }], guard := none }) (v := ?pcv4) rfl (by kernel_rfl) (by kernel_rfl) (by kernel_rfl) (fun _ _ _ h => h) (Or.inl ⟨by rfl, ?pch4⟩) (by assumption) ?pcr4
                    case pch4 => ((intro w hSw; (try dsimp only at hSw); go_simp); try with_reducible rfl)
                    try simp only [Act.put, List.setIfInBounds_toArray, List.set_cons_zero, List.set_cons_succ]
                    refine wpAnyH_take (i := 5) (oi := { dst := some 95, op := Op.move (Operand.tmp 1), type := 22, pos := "law.go:140", after := #[], guard := none }) (v := ?pcv5) rfl (by kernel_rfl) (by kernel_rfl) (by kernel_rfl) (fun _ _ _ h => h) (Or.inl ⟨by rfl, ?pch5⟩) (by assumption) ?pcr5
                    case pch5 => ((intro w hSw; (try dsimp only at hSw); go_simp); try with_reducible rfl)
                    try simp only [Act.put, List.setIfInBounds_toArray, List.set_cons_zero, List.set_cons_succ]
                    refine wpAnyH_take (i := 6) (oi := { dst := some 96, op := Op.move (Operand.tmp 14), type := 3, pos := "law.go:140", after := #[], guard := none }) (v := ?pcv6) rfl (by kernel_rfl) (by kernel_rfl) (by kernel_rfl) (fun _ _ _ h => h) (Or.inl ⟨by rfl, ?pch6⟩) (by assumption) ?pcr6
                    case pch6 => ((intro w hSw; (try dsimp only at hSw); go_simp); try with_reducible rfl)
                    try simp only [Act.put, List.setIfInBounds_toArray, List.set_cons_zero, List.set_cons_succ]
                    refine wpAnyH_take (i := 7) (oi := { dst := some 97, op := Op.binOp BinOp.add 3 (Operand.tmp 96) (Operand.const (Value.int IntKind.i64 1)) 3, type := 3, pos := "law.go:140", after := #[{ on := 6, ground := Ground.data }], guard := none }) (v := ?pcv7) rfl (by kernel_rfl) (by kernel_rfl) (by kernel_rfl) (fun _ _ _ h => h) (Or.inl ⟨by rfl, ?pch7⟩) (by assumption) ?pcr7
                    case pch7 => ((intro w hSw; (try dsimp only at hSw); go_simp); try with_reducible rfl)
                    try simp only [Act.put, List.setIfInBounds_toArray, List.set_cons_zero, List.set_cons_succ]
                    refine wpAnyH_take (i := 8) (oi := { dst := some 98, op := Op.indexAddr 22 (Operand.tmp 95) (Operand.tmp 97), type := 0, pos := "law.go:140", after := #[{ on := 5, ground := Ground.data }, { on := 7, ground := Ground.data }], guard := none }) (v := ?pcv8) rfl (by kernel_rfl) (by kernel_rfl) (by kernel_rfl) (fun _ _ _ h => h) (Or.inl ⟨by rfl, ?pch8⟩) (by assumption) ?pcr8
                    case pch8 => ((intro w hSw; (try dsimp only at hSw); go_simp); try with_reducible rfl)
                    try simp only [Act.put, List.setIfInBounds_toArray, List.set_cons_zero, List.set_cons_succ]
                    refine wpAnyH_take (i := 9) (oi := { dst := some 99, op := Op.fieldAddr 59 (Operand.tmp 98) 0, type := 0, pos := "law.go:140", after := #[{ on := 8, ground := Ground.data }], guard := none }) (v := ?pcv9) rfl (by kernel_rfl) (by kernel_rfl) (by kernel_rfl) (fun _ _ _ h => h) (Or.inl ⟨by rfl, ?pch9⟩) (by assumption) ?pcr9
                    case pch9 => ((intro w hSw; (try dsimp only at hSw); go_simp); try with_reducible rfl)
                    try simp only [Act.put, List.setIfInBounds_toArray, List.set_cons_zero, List.set_cons_succ]
                    refine wpAnyH_take (i := 10) (oi := { dst := some 100, op := Op.load 3 (Operand.tmp 99), type := 3, pos := "law.go:140", after := #[{ on := 9, ground := Ground.data }], guard := none }) (v := ?pcv10) rfl (by kernel_rfl) (by kernel_rfl) (by kernel_rfl) (fun _ _ _ h => h) (Or.inl ⟨by rfl, ?pch10⟩) (by assumption) ?pcr10
                    case pch10 => ((intro w hSw; (try dsimp only at hSw); go_simp); try with_reducible rfl)
                    try simp only [Act.put, List.setIfInBounds_toArray, List.set_cons_zero, List.set_cons_succ]
                    refine wpAnyH_take (i := 11) (oi := { dst := some 101, op := Op.binOp BinOp.gtr 3 (Operand.tmp 94) (Operand.tmp 100) 3, type := 4, pos := "law.go:140", after := #[{ on := 4, ground := Ground.data }, { on := 10, ground := Ground.data }], guard := none }) (v := ?pcv11) rfl (by kernel_rfl) (by kernel_rfl) (by kernel_rfl) (fun _ _ _ h => h) (Or.inl ⟨by rfl, ?pch11⟩) (by assumption) ?pcr11
                    case pch11 => ((intro w hSw; (try dsimp only at hSw); go_simp); try with_reducible rfl)
                    try simp only [Act.put, List.setIfInBounds_toArray, List.set_cons_zero, List.set_cons_succ]
                    refine wpAnyH_done (by kernel_rfl) ?_ _
                    go_wp2_with fail
                    have h9 := HT1.out
                    exact ⟨⟨t + 1, by omega, by (first | go_num | (rw [h9]; go_num)), fun q h h2 => HLN.out q h h2 (fun _ => by rw [← HLA.out.1, ← HLA.out.2]; exact HL1.out), HB3'.out.drew⟩, by simp [intOf]; omega⟩
                · have hte : t = mr := by omega
                  subst hte
                  have HSO : Hid (∀ p ∈ (FP.rows 0 rl).1.ps, (p.pieces.map Pc.line).Pairwise (· ≤ ·)) := rows_sorted 0 rl (fun q h => hsr q h (by have := HMR.out; have := HNR.out; omega))
                  clear hsr hb3
                  go_upto_region 29 with (fail)
                  go_wp2_with (fail)
                  refine (HONE.out wr3 HB3'.out hs).mono ?_
                  rintro e w9 ⟨qp, qm, qg, qf, nq, nn, nh, ni, dp, dm, dg, df, Y, rfl, hY, hYC, hb9⟩
                  obtain ⟨wA, hwA⟩ : ∃ wA, wA = w9.alloc (.cells #[.slice qp nq dp, .slice qm nn dm, .slice qg nh dg] 32) := ⟨_, rfl⟩
                  have HWA := hid hwA
                  have HBA : Hid (Below W.heap.size W wA) := by rw [hwA]; exact (HB3'.out.trans (hb9.mono HB3'.out.size)).alloc (Nat.le_trans HB3'.out.size hb9.size) _
                  have HYA : Hid (OnX wA (FP.rows 0 rl).1 qp qm qg qf nq nn nh ni dp dm dg df Y) := by rw [hwA]; exact hY.below (alloc_below _ _)
                  have hzA : wA.heap[w9.heap.size]? = some (.cells #[.slice qp nq dp, .slice qm nn dm, .slice qg nh dg] 32 (0, 0)) := by rw [hwA]; exact heap_alloc_new _ _
                  obtain ⟨z0, z1, z2⟩ := un_cells hzA
                  have HNQ : Hid (nq = Y.ps.length) := by
                    obtain ⟨p0, c0, e0, -⟩ := hY.rd.pv
                    rw [hY.pv] at e0
                    cases e0; rfl
                  have hnq9 : nq ≤ 1000000000000 := by rw [HNQ.out]; exact hY.rd.sm.ps
                  have HYC := hid hYC
                  clear hY hb9 hwA hzA hYC
                  dsimp only
                  go_upto_region 30 with (fail)
                  rw [← HWA.out]
                  go_wp2_with (fail)
                  go_loopw [111] (fun i wr4 => ∃ (j : Nat), j ≤ nq ∧ i = .int .i64 j ∧ Below wA.heap.size wA wr4) (fun i _ => nq - (intOf i).toNat)
                  case atStart => exact ⟨0, Nat.zero_le _, rfl, Below.refl _ _⟩
                  case round =>
                    rename World => wr4
                    obtain ⟨j, hj, rfl, hb4⟩ := hrel
                    have HB4 := hid hb4
                    by_cases hjl : j < nq
                    · have hjI : (j : Int) < nq := by omega
                      have hjl2 : j < Y.ps.length := by rw [← HNQ.out]; exact hjl
                      have hy4 := HYA.out.below hb4
                      obtain ⟨pp0, cp0, epv, hpr⟩ := hy4.rd.pv
                      rw [hy4.pv] at epv
                      cases epv
                      obtain ⟨pb0, po, hpe, -, -⟩ := hpr.at (by rw [flat_len PtR.cells 4 (fun _ => rfl)]; omega)
                      rw [hpe] at hpr
                      obtain ⟨p0, p1, p2, p3⟩ := pt_ex hpr j hjl2
                      rw [hpe]
                      have HPT := hid (hy4.rd.pts _ (List.getElem_mem hjl2))
                      have HYJ := hid (HYC.out _ (List.getElem_mem hjl2))
                      have HSJ : Hid ((Y.ps[j].pieces.l.map PcR.line).Pairwise (· ≤ ·)) := by
                        have h1 := HSO.out Y.ps[j].pl (by rw [← hy4.pl]; exact List.mem_map.2 ⟨_, List.getElem_mem hjl2, rfl⟩)
                        have e : Y.ps[j].pl.pieces.map Pc.line = Y.ps[j].pieces.l.map PcR.line := by
                          show (Y.ps[j].pieces.l.map PcR.pl).map Pc.line = _
                          rw [List.map_map]; rfl
                        rw [e] at h1
                        exact h1
                      generalize Y.ps[j] = y at *
                      obtain ⟨W5, hW5⟩ : ∃ W5, W5 = wr4.alloc (.cells #[.string y.name, .int .i64 y.file, .int .i64 y.line, .slice y.pieces.p y.pieces.l.length y.pieces.c] 50) := ⟨_, rfl⟩
                      have HW5 := hid hW5
                      have hb5 : Below wr4.heap.size wr4 W5 := by rw [hW5]; exact alloc_below _ _
                      have HX5 : Hid (W5.heap[wr4.heap.size]? = some (.cells #[.string y.name, .int .i64 y.file, .int .i64 y.line, .slice y.pieces.p y.pieces.l.length y.pieces.c] 50 (0, 0))) := by rw [hW5]; exact heap_alloc_new _ _
                      have HB5 : Hid (Below wA.heap.size wA W5) := hb4.trans (hb5.mono hb4.size)
                      have HPT5 := hid (HPT.out.row.below hb5)
                      obtain ⟨NQ, hNQ⟩ : ∃ NQ, NQ = y.pieces.l.length := ⟨_, rfl⟩
                      have HNQ2 := hid hNQ
                      have hnq2 : NQ ≤ 1000000000000 := by rw [hNQ]; exact HPT.out.len
                      have hnqc : NQ ≤ y.pieces.c := by rw [hNQ]; exact HYJ.out
                      have q3 := cell_of_row _ _ 3 _ _ _ HX5.out
                      simp only [List.getElem?_toArray, List.getElem?_cons_zero, List.getElem?_cons_succ] at q3
                      rw [← hNQ] at q3
                      have HX5' : Hid (W5.heap[wr4.heap.size]? = some (.cells #[.string y.name, .int .i64 y.file, .int .i64 y.line, .slice y.pieces.p NQ y.pieces.c] 50 (0, 0))) := by rw [hNQ]; exact HX5.out
                      have hmaxq : max ((NQ : Int) - 1) 0 = ((NQ - 1 : Nat) : Int) := by omega
                      obtain ⟨mq, hmq⟩ : ∃ mq, mq = NQ - 1 := ⟨_, rfl⟩
                      have HMQ := hid hmq
                      rw [← hmq] at hmaxq
                      have hmqc : mq ≤ y.pieces.c := by omega
                      have hmqI : (mq : Int) ≤ y.pieces.c := by omega
                      have hmqn : mq ≤ NQ := by omega
                      clear hb4 hpr hy4 hpe hb5 hW5 hNQ hmq
                      go_upto_region 33 with (fail)
                      rw [← HW5.out]
                      clear p0 p1 p2 p3
                      go_wp2_with (fail)
                      go_loopw [124] (fun i wr5 => ∃ (m : Nat), m ≤ mq ∧ i = .int .i64 m ∧ Below W5.heap.size W5 wr5) (fun i _ => mq - (intOf i).toNat)
                      case atStart => exact ⟨0, Nat.zero_le _, rfl, Below.refl _ _⟩
                      case round =>
                        rename World => wr5
                        obtain ⟨m, hm, rfl, hb6⟩ := hrel
                        have HB6' := hid hb6
                        by_cases hml : m < mq
                        · have hmI : (m : Int) < mq := by omega
                          obtain ⟨m1, hm1⟩ : ∃ m1, m1 = m + 1 := ⟨_, rfl⟩
                          have HM1 := hid hm1
                          have hm1n : (m1 : Int) < NQ := by have := HMQ.out; omega
                          have hmn : (m : Int) < NQ := by omega
                          have hwm : IntKind.i64.wrap ((m : Int) + 1) = (m1 : Nat) := by rw [IntWalk.i64_in _ (by omega)]; omega
                          have hml1 : m + 1 < y.pieces.l.length := by have := HMQ.out; have := HNQ2.out; omega
                          have hml0 : m < y.pieces.l.length := by omega
                          have hqr := HPT5.out.below hb6
                          obtain ⟨qb, qo, hqe, hqbl, -⟩ := hqr.at (by rw [flat_len PcR.cells 11 (fun _ => rfl)]; omega)
                          rw [hqe] at hqr
                          have c0 := (pc_ex hqr m hml0).2.2.1
                          have c1 := (pc_ex hqr (m + 1) hml1).2.2.1
                          have hle : y.pieces.l[m].line ≤ y.pieces.l[m + 1].line := by
                            have h1 := List.pairwise_iff_getElem.1 HSJ.out m (m + 1) (by simpa using hml0) (by simpa using hml1) (by omega)
                            simpa using h1
                          obtain ⟨la, hla⟩ : ∃ la, la = y.pieces.l[m].line := ⟨_, rfl⟩
                          obtain ⟨lb, hlb⟩ : ∃ lb, lb = y.pieces.l[m + 1].line := ⟨_, rfl⟩
                          rw [← hla, ← hlb] at hle
                          rw [← hla] at c0
                          rw [← hlb, ← hm1] at c1
                          obtain ⟨wd, hwd⟩ : ∃ wd, wd = wr5.drew := ⟨_, rfl⟩
                          have hbd : Below wr5.heap.size wr5 wd := by rw [hwd]; exact (Below.refl _ _).drew
                          have hxd : wd.heap[wr4.heap.size]? = some (.cells #[.string y.name, .int .i64 y.file, .int .i64 y.line, .slice y.pieces.p NQ y.pieces.c] 50 (0, 0)) := by rw [hwd]; exact (hb6.block _ (Array.getElem?_eq_some_iff.1 HX5'.out).1).trans HX5'.out
                          rw [hqe] at hxd
                          have hxl : wr4.heap.size < wd.heap.size := (Array.getElem?_eq_some_iff.1 hxd).1
                          have hql : qb < wd.heap.size := by have := hbd.size; omega
                          have HXD := hid hxd
                          have c0' := (hbd.cell (p := ⟨qb, qo + m * 11 + 2, none⟩) hqbl).trans c0
                          have c1' := (hbd.cell (p := ⟨qb, qo + m1 * 11 + 2, none⟩) hqbl).trans c1
                          have k0 : ∀ w : World, SameAt wr4.heap.size qb wd w → w.cell? ⟨qb, qo + m * 11 + 2, none⟩ = some (.int .i64 la) := fun w h => (World.cell?_of_block (a := ⟨qb, qo + m * 11 + 2, none⟩) h.b).trans c0'
                          have k1 : ∀ w : World, SameAt wr4.heap.size qb wd w → w.cell? ⟨qb, qo + m1 * 11 + 2, none⟩ = some (.int .i64 lb) := fun w h => (World.cell?_of_block (a := ⟨qb, qo + m1 * 11 + 2, none⟩) h.b).trans c1'
                          have k3 : ∀ w : World, SameAt wr4.heap.size qb wd w → w.cell? ⟨wr4.heap.size, 3, none⟩ = some (.slice (some ⟨qb, qo, none⟩) NQ y.pieces.c) := fun w h => cell_of_row _ _ 3 _ _ _ (h.a.trans HXD.out)
                          have HH0 : Hid (SameAt wr4.heap.size qb wd wd) := ⟨Nat.le_refl _, rfl, rfl⟩
                          have HSB : Hid (∀ w', Below wd.heap.size wd w' → SameAt wr4.heap.size qb wd w') := fun w' hb => ⟨hb.size, hb.block _ hxl, hb.block _ hql⟩
                          have HLS := hid (less_line la lb hle wd)
                          have HBD : Hid (Below W5.heap.size W5 wd) := hb6.trans (hbd.mono hb6.size)
                          have HQE := hid hqe
                          rw [hqe]
                          clear hb6 hqr c0 c1 c0' c1' hla hlb hle hbd hxd hm1 hqe
                          go_upto_region 36 with (fail)
                          refine wp_region_held_drew (S := SameAt wr4.heap.size qb wd) (by kernel_rfl) (by rw [← hwd]; exact HH0.out) (fun hHeld => ?_)
                          rw [← hwd] at *
                          refine wpAnyH_take (i := 0) (oi := { dst := some 127, op := Op.fieldAddr 50 (Operand.tmp 18) 3, type := 0, pos := "law.go:147", after := #[], guard := none }) (v := ?pfv0) rfl (by kernel_rfl) (by kernel_rfl) (by kernel_rfl) (fun _ _ _ h => h) (Or.inl ⟨by rfl, ?pfh0⟩) (by assumption) ?pfr0
                          case pfh0 => ((intro w hSw; (try dsimp only at hSw); go_simp); try with_reducible rfl)
                          try simp only [Act.put, List.setIfInBounds_toArray, List.set_cons_zero, List.set_cons_succ]
                          refine wpAnyH_take (i := 1) (oi := { dst := some 128, op := Op.load 48 (Operand.tmp 127), type := 48, pos := "law.go:147", after := #[{ on := 0, ground := Ground.data }], guard := none }) (v := ?pfv1) rfl (by kernel_rfl) (by kernel_rfl) (by kernel_rfl) (fun _ _ _ h => h) (Or.inl ⟨by rfl, ?pfh1⟩) (by assumption) ?pfr1
                          case pfh1 => ((intro w hSw; (try dsimp only at hSw); go_simp); try with_reducible rfl)
                          try simp only [Act.put, List.setIfInBounds_toArray, List.set_cons_zero, List.set_cons_succ]
                          refine wpAnyH_take (i := 2) (oi := { dst := some 129, op := Op.move (Operand.tmp 19), type := 3, pos := "law.go:147", after := #[], guard := none }) (v := ?pfv2) rfl (by kernel_rfl) (by kernel_rfl) (by kernel_rfl) (fun _ _ _ h => h) (Or.inl ⟨by rfl, ?pfh2⟩) (by assumption) ?pfr2
                          case pfh2 => ((intro w hSw; (try dsimp only at hSw); go_simp); try with_reducible rfl)
                          try simp only [Act.put, List.setIfInBounds_toArray, List.set_cons_zero, List.set_cons_succ]
                          refine wpAnyH_take (i := 3) (oi := { dst := some 130, op := Op.binOp BinOp.add 3 (Operand.tmp 129) (Operand.const (Value.int IntKind.i64 1)) 3, type := 3, pos := "law.go:147", after := #[{ on := 2, ground := Ground.data }], guard := none }) (v := ?pfv3) rfl (by kernel_rfl) (by kernel_rfl) (by kernel_rfl) (fun _ _ _ h => h) (Or.inl ⟨by rfl, ?pfh3⟩) (by assumption) ?pfr3
                          case pfh3 => ((intro w hSw; (try dsimp only at hSw); go_simp); try with_reducible rfl)
                          try simp only [Act.put, List.setIfInBounds_toArray, List.set_cons_zero, List.set_cons_succ]
                          refine wpAnyH_take (i := 4) (oi := { dst := some 131, op := Op.indexAddr 48 (Operand.tmp 128) (Operand.tmp 130), type := 0, pos := "law.go:147", after := #[{ on := 1, ground := Ground.data }, { on := 3, ground := Ground.data }], guard := none }) (v := ?pfv4) rfl (by kernel_rfl) (by kernel_rfl) (by kernel_rfl) (fun _ _ _ h => h) (Or.inl ⟨by rfl, ?pfh4⟩) (by assumption) ?pfr4
                          case pfh4 => ((intro w hSw; (try dsimp only at hSw); go_simp); try with_reducible rfl)
                          try simp only [Act.put, List.setIfInBounds_toArray, List.set_cons_zero, List.set_cons_succ]
                          refine wpAnyH_take (i := 5) (oi := { dst := some 132, op := Op.fieldAddr 64 (Operand.tmp 131) 2, type := 0, pos := "law.go:147", after := #[{ on := 4, ground := Ground.data }], guard := none }) (v := ?pfv5) rfl (by kernel_rfl) (by kernel_rfl) (by kernel_rfl) (fun _ _ _ h => h) (Or.inl ⟨by rfl, ?pfh5⟩) (by assumption) ?pfr5
                          case pfh5 => ((intro w hSw; (try dsimp only at hSw); go_simp); try with_reducible rfl)
                          try simp only [Act.put, List.setIfInBounds_toArray, List.set_cons_zero, List.set_cons_succ]
                          refine wpAnyH_take (i := 6) (oi := { dst := some 133, op := Op.load 3 (Operand.tmp 132), type := 3, pos := "law.go:147", after := #[{ on := 5, ground := Ground.data }], guard := none }) (v := ?pfv6) rfl (by kernel_rfl) (by kernel_rfl) (by kernel_rfl) (fun _ _ _ h => h) (Or.inl ⟨by rfl, ?pfh6⟩) (by assumption) ?pfr6
                          case pfh6 => ((intro w hSw; (try dsimp only at hSw); go_simp); try with_reducible rfl)
                          try simp only [Act.put, List.setIfInBounds_toArray, List.set_cons_zero, List.set_cons_succ]
                          refine wpAnyH_take (i := 7) (oi := { dst := some 134, op := Op.build 42 #[(1, Operand.tmp 133)], type := 42, pos := "law.go:147", after := #[{ on := 6, ground := Ground.data }], guard := none }) (v := ?pfv7) rfl (by kernel_rfl) (by kernel_rfl) (by kernel_rfl) (fun _ _ _ h => h) (Or.inl ⟨by rfl, ?pfh7⟩) (by assumption) ?pfr7
                          case pfh7 => ((intro w hSw; (try dsimp only at hSw); go_simp); try with_reducible rfl)
                          try simp only [Act.put, List.setIfInBounds_toArray, List.set_cons_zero, List.set_cons_succ]
                          refine wpAnyH_take (i := 8) (oi := { dst := some 135, op := Op.fieldAddr 50 (Operand.tmp 18) 3, type := 0, pos := "law.go:147", after := #[], guard := none }) (v := ?pfv8) rfl (by kernel_rfl) (by kernel_rfl) (by kernel_rfl) (fun _ _ _ h => h) (Or.inl ⟨by rfl, ?pfh8⟩) (by assumption) ?pfr8
                          case pfh8 => ((intro w hSw; (try dsimp only at hSw); go_simp); try with_reducible rfl)
                          try simp only [Act.put, List.setIfInBounds_toArray, List.set_cons_zero, List.set_cons_succ]
                          refine wpAnyH_take (i := 9) (oi := { dst := some 136, op := Op.load 48 (Operand.tmp 135), type := 48, pos := "law.go:147", after := #[{ on := 8, ground := Ground.data }], guard := none }) (v := ?pfv9) rfl (by kernel_rfl) (by kernel_rfl) (by kernel_rfl) (fun _ _ _ h => h) (Or.inl ⟨by rfl, ?pfh9⟩) (by assumption) ?pfr9
                          case pfh9 => ((intro w hSw; (try dsimp only at hSw); go_simp); try with_reducible rfl)
                          try simp only [Act.put, List.setIfInBounds_toArray, List.set_cons_zero, List.set_cons_succ]
                          refine wpAnyH_take (i := 10) (oi := { dst := some 137, op := Op.move (Operand.tmp 19), type := 3, pos := "law.go:147", after := #[], guard := none }) (v := ?pfv10) rfl (by kernel_rfl) (by kernel_rfl) (by kernel_rfl) (fun _ _ _ h => h) (Or.inl ⟨by rfl, ?pfh10⟩) (by assumption) ?pfr10
                          case pfh10 => ((intro w hSw; (try dsimp only at hSw); go_simp); try with_reducible rfl)
                          try simp only [Act.put, List.setIfInBounds_toArray, List.set_cons_zero, List.set_cons_succ]
                          refine wpAnyH_take (i := 11) (oi := { dst := some 138, op := Op.indexAddr 48 (Operand.tmp 136) (Operand.tmp 137), type := 0, pos := "law.go:147", after := #[{ on := 9, ground := Ground.data }, { on := 10, ground := Ground.data }], guard := none }) (v := ?pfv11) rfl (by kernel_rfl) (by kernel_rfl) (by kernel_rfl) (fun _ _ _ h => h) (Or.inl ⟨by rfl, ?pfh11⟩) (by assumption) ?pfr11
                          case pfh11 => ((intro w hSw; (try dsimp only at hSw); go_simp); try with_reducible rfl)
                          try simp only [Act.put, List.setIfInBounds_toArray, List.set_cons_zero, List.set_cons_succ]
                          refine wpAnyH_take (i := 12) (oi := { dst := some 139, op := Op.fieldAddr 64 (Operand.tmp 138) 2, type := 0, pos := "law.go:147", after := #[{ on := 11, ground := Ground.data }], guard := none }) (v := ?pfv12) rfl (by kernel_rfl) (by kernel_rfl) (by kernel_rfl) (fun _ _ _ h => h) (Or.inl ⟨by rfl, ?pfh12⟩) (by assumption) ?pfr12
                          case pfh12 => ((intro w hSw; (try dsimp only at hSw); go_simp); try with_reducible rfl)
                          try simp only [Act.put, List.setIfInBounds_toArray, List.set_cons_zero, List.set_cons_succ]
                          refine wpAnyH_take (i := 13) (oi := { dst := some 140, op := Op.load 3 (Operand.tmp 139), type := 3, pos := "law.go:147", after := #[{ on := 12, ground := Ground.data }], guard := none }) (v := ?pfv13) rfl (by kernel_rfl) (by kernel_rfl) (by kernel_rfl) (fun _ _ _ h => h) (Or.inl ⟨by rfl, ?pfh13⟩) (by assumption) ?pfr13
                          case pfh13 => ((intro w hSw; (try dsimp only at hSw); go_simp); try with_reducible rfl)
                          try simp only [Act.put, List.setIfInBounds_toArray, List.set_cons_zero, List.set_cons_succ]
                          refine wpAnyH_take (i := 14) (oi := { dst := some 141, op := Op.build 42 #[(1, Operand.tmp 140)], type := 42, pos := "law.go:147", after := #[{ on := 13, ground := Ground.data }], guard := none }) (v := ?pfv14) rfl (by kernel_rfl) (by kernel_rfl) (by kernel_rfl) (fun _ _ _ h => h) (Or.inl ⟨by rfl, ?pfh14⟩) (by assumption) ?pfr14
                          case pfh14 => ((intro w hSw; (try dsimp only at hSw); go_simp); try with_reducible rfl)
                          try simp only [Act.put, List.setIfInBounds_toArray, List.set_cons_zero, List.set_cons_succ]
                          refine wpAnyH_ready (rs := [15]) (by kernel_rfl) (by simp) ?_
                          refine AllReadyH.cons (o := { dst := some 142, op := Op.call { callee := Callee.value (Operand.func 18), args := #[Operand.tmp 134, Operand.tmp 141], argTypes := #[42, 42] }, type := 4, pos := "law.go:147", after := #[{ on := 7, ground := Ground.data }, { on := 14, ground := Ground.data }], guard := none }) rfl (fun K hK => ?_) AllReadyH.nil
                          go_simp; go_at_call 18; (with_reducible refine HLS.out.mono ?_); rintro e1 wi ⟨rfl, hbi⟩; have HSI := hid (HSB.out _ hbi); have HBI := hid (HBD.out.trans (hbi.mono HBD.out.size)); clear hbi; refine hK.out _ _ HSI.out (fun hHeld => ?_)
                          clear hK K
                          try simp only [Act.put, List.setIfInBounds_toArray, List.set_cons_zero, List.set_cons_succ]
                          refine wpAnyH_done (by kernel_rfl) ?_ _
                          go_wp2_with fail
                          have h9 := HM1.out
                          exact ⟨⟨m + 1, by omega, by (first | go_num | (rw [h9]; go_num)), HBI.out⟩, by simp [intOf]; omega⟩
                        · have hme : m = mq := by omega
                          go_wp2_with fail
                          exact ⟨⟨j + 1, by omega, by go_num, HB5.out.trans (HB6'.out.mono HB5.out.size)⟩, by simp [intOf]; omega⟩
                    · have hje : j = nq := by omega
                      go_wp2_with fail
                      go_ret
                      exact ⟨rfl, HBA.out.trans (HB4.out.mono HBA.out.size)⟩
    · have hds : decide (nr ≤ 300) = false := by simpa using hs
      go_wp2_with (first
        | (go_at_call 8; go_loud ((with_reducible refine (HSH.out _).mono ?_); rintro e w9 ⟨rfl, rfl⟩))
        | (go_at_call 7; go_loud ((with_reducible refine (HBG.out _).mono ?_); rintro e w4 ⟨rfl, hb4⟩; have HB4 := hid (HB3.out.trans (hb4.mono HB3.out.size)); clear hb4)))
      go_ret
      exact ⟨rfl, HB4.out⟩
end Go.Proofs.Ythlingholhjcnaa
