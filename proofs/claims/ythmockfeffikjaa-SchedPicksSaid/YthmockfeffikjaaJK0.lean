/-
  The walk of New of the document's memory.
  Waits of the document's memory.
  Do of the document's memory.
-/
import Derived.Test.YthmockfeffikjaaJE14
import Derived.Test.YthmockfeffikjaaJE13
import Derived.Deep.DeepCutAuto
import Derived.Test.YthmockfeffikjaaJE9
namespace Go.Proofs.Ythmockfeffikjaa
open Go.RowKit
variable {W w : World}

set_option maxRecDepth 100000 in
set_option maxHeartbeats 1000000 in
theorem rnew_long (p : Option Addr) (c : Nat) (zs : List CeR) (w : World) (hc : zs.length ≤ c) (hm : c ≤ maxLen) (hl : 4096 < zs.length) :
    Calls Try.prog 49 #[.slice p zs.length c] w (NewTell w hdR (zs.map CeR.x)) := by
  have hE : Hid (newE (zs.map CeR.x) = 3) := by unfold newE; rw [if_pos (by simpa using hl)]; exact rfl
  unfold maxLen at hm
  go_enter Try.func49, Try.ntmps49
  go_wp2
  go_ret2
  exact .inr ⟨by rw [hE.out]; decide, by rw [hE.out]; rfl, Below.refl _ _⟩

set_option maxRecDepth 100000 in
set_option maxHeartbeats 4000000 in
theorem rnew_walk (p : Option Addr) (c : Nat) (zs : List CeR) (w : World) (hc : zs.length ≤ c) (hm : c ≤ maxLen) (hrow : Row w p (ceRow zs)) (hsl : ∀ z ∈ zs, SlAt w z.p z.c z.x.came) (hcm : ∀ z ∈ zs, z.x.came.length ≤ 17592186043904) (hl : zs.length ≤ 4096) :
    Calls Try.prog 49 #[.slice p zs.length c] w (NewTell w hdR (zs.map CeR.x)) := by
  unfold maxLen at hm
  have HR := hid hrow
  have HSL := hid hsl
  have HCM := hid hcm
  clear hrow hsl hcm
  go_enter Try.func49, Try.ntmps49
  go_wp2
  go_loopw [5] (fun i wr => ∃ k : Nat, k ≤ zs.length ∧ i = .int .i64 k ∧ NI w hdR zs k wr) (fun i _ => zs.length - (intOf i).toNat)
  case atStart => exact ⟨0, Nat.zero_le _, rfl, NI.start zs hdR ((Below.refl _ _).alloc (Nat.le_refl _) _) (heap_alloc_new w _)⟩
  case round =>
    obtain ⟨k, hk, rfl, hall, hbw, hzw, v, ys, H, hyl⟩ := hrel
    have HALL := hid hall
    have HB := hid hbw
    have HM := hid H
    have HYL := hid hyl
    clear hall hbw H hyl
    by_cases hlt : k < zs.length
    · have hltI : (k : Int) < zs.length := by omega
      have hmem := List.getElem_mem hlt
      have hs := HSL.out _ hmem
      have hcm := HCM.out _ hmem
      obtain ⟨b, o, rfl, hbz, _⟩ := HR.out.at (by rw [ceRow_len]; omega)
      obtain ⟨r0, r1, r2, r3, r4, r5, r6⟩ := ce_cells (HR.out.below HB.out) k hlt
      have HOKK := hid (fun (e : okP zs[k].x = true) => e)
      obtain ⟨y, hy⟩ : ∃ y, y = zs[k] := ⟨_, rfl⟩
      rw [← hy] at r0 r1 r2 r3 r4 r5 r6 hs hcm
      have HY := hid hy
      clear hy
      have HCK := hid (fun w1 (hb : Below w.heap.size w w1) => rcheck_any y.x y.p y.c w1 (hs.below hb) hcm)
      have HCP := hid (fun w1 (hb : Below w.heap.size w w1) => rclone_any y.x y.p y.c w1 hcm (hs.below hb))
      clear hs hmem
      obtain ⟨⟨kind, n, owner, need, came, turns, there⟩, yp, yc⟩ := y
      unfold CopyTell at HCP
      unfold Ce.val at HCK HCP
      dsimp only at *
      by_cases hok : okP ⟨kind, n, owner, need, came, turns, there⟩ = true
      · have hck : ckP ⟨kind, n, owner, need, came, turns, there⟩ = 0 := by unfold ckP; rw [if_pos hok]
        rw [hck] at HCK
        have HOK := hid hok
        clear hok hck HOKK
        go_upto_region 10 with (go_at_call 58; (with_reducible refine (HCK.out _ HB.out).mono ?_); rintro e w1 ⟨rfl, hb1⟩; have HB1 := hid hb1; clear hb1)
        have hB1 : Below wr.heap.size wr w1 := HB1.out
        have hz1 : wr.heap.size ≤ w1.heap.size := HB1.out.size
        have hbz1 : b < w1.heap.size := by omega
        have up : ∀ (j : Nat) (u : Value), wr.cell? ⟨b, j, none⟩ = some u → w1.cell? ⟨b, j, none⟩ = some u := fun j u h => (hB1.cell (p := ⟨b, j, none⟩) (show b < wr.heap.size by have := HB.out.size; omega)).trans h
        have y0 := up _ _ r0
        have y1 := up _ _ r1
        have y2 := up _ _ r2
        have y3 := up _ _ r3
        have y4 := up _ _ r4
        have y5 := up _ _ r5
        have y6 := up _ _ r6
        clear up
        have hD1 : w1.heap[w.heap.size]? = some (hdR v 0) := (hB1.block _ hzw).trans HM.out.head
        obtain ⟨d1, _⟩ := hdR_cells hD1
        have HD1 := hid hD1
        have HBB := hid hB1
        clear hD1 r0 r1 r2 r3 r4 r5 r6 hB1
        go_region_law (first
          | (go_loud (refine step_app ECell rfl (.tmp 30) (.tmp 36) rfl w.heap.size v k (ceRow ys) rfl ((HOWN3.out).alloc _) ⟨_, 0, none⟩ 1 1 (CeR.cells ⟨⟨kind, n, owner, need, came, turns, there⟩, p3, c3⟩) rfl rfl (row_newAt _ _ _ _ (by simp)) (ceCells_one _) (by unfold maxLen; omega) (by omega) (by simp; omega) ?_); intro v4 w4 ho4 hg4 hs4; obtain ⟨vp4, vc4, rfl, _⟩ := own_row ho4; have HD4 : Hid (w4.heap[w.heap.size]? = some (hdR v 0)) := (hg4.block _ (by simp; omega) (fun e => HM.out.nd e.symm)).trans ((Below.heap_alloc _ _ _ (by omega)).trans HD3.out); have d4 := (hdR_cells HD4.out).1; have f4 : w4.frozen? ⟨w.heap.size, 0, none⟩ = false := frozen_of_row _ _ _ _ _ HD4.out; have HO4 := hid ho4; have HG4 := hid hg4; have HS4 := hid hs4; clear ho4 hg4 hs4)
          | (go_simp; go_at_call 59; (with_reducible refine (HCP.out _ (by first | exact HB.out.trans (HBB.out.mono HB.out.size) | exact (HB.out.trans (HBB.out.mono HB.out.size)).drew)).mono ?_); rintro e w3 ⟨p3, c3, rfl, ho3, hb3⟩; have HO3 := hid ho3; have hb3' : Below w1.heap.size w1 w3 := ⟨hb3.os, hb3.tape, hb3.output, hb3.size, hb3.block⟩; have HB3 := hid hb3'; have hbr3 : Below wr.heap.size wr w3 := HBB.out.trans (hb3'.mono HBB.out.size); have HOWN3 : Hid (w3.ownsRow w.heap.size 30 7 v k (ceRow ys)) := (by have := own_below HM.out.own hbr3; rw [HYL.out] at this; exact this); have hz3 : w1.heap.size ≤ w3.heap.size := hb3'.size;  have hzw3 : w.heap.size < w3.heap.size := (by omega); have d3 : w3.cell? ⟨w.heap.size, 0, none⟩ = some v := (hb3'.cell (p := ⟨w.heap.size, 0, none⟩) (by show w.heap.size < _; omega)).trans d1; have HD3 : Hid (w3.heap[w.heap.size]? = some (hdR v 0)) := (hb3'.block _ (by omega)).trans HD1.out; have HBR3 := hid hbr3; clear ho3 hb3 hb3' hbr3))
        all_goals
          go_wp2_with fail
          go_roundw
          case rel =>
            refine ⟨k + 1, by omega, by go_num, NI.push hlt (by rw [← HY.out]) HOK.out HB.out hzw HALL.out HM.out HYL.out (w2 := w3.alloc (.cells #[i64 kind, i64 n, i64 owner, i64 need, .slice p3 came.length c3, i64 turns, .bool there] 30)) (HBR3.out.alloc HBR3.out.size _) ((own_slat HO3.out).alloc _) (fun q hq => ?_) HO4.out HG4.out HS4.out (heap_setCell_same w4 w.heap.size 0 _ _ _ HD4.out) (fun j hj => Below.heap_setCell _ _ _ _ hj) (by simp) ⟨(grown_set w4 _ _ _).os, (grown_set w4 _ _ _).tape, (grown_set w4 _ _ _).output⟩⟩
            have h1 : w1.heap.size ≤ q.block := own_ge HO3.out q.block (by subst hq; rfl)
            have h2 := own_lt HO3.out q.block (by subst hq; rfl)
            exact ⟨by omega, by simp; omega⟩
          case measure => simp [intOf]; omega
      · have hck : ckP ⟨kind, n, owner, need, came, turns, there⟩ = 230 := by unfold ckP; rw [if_neg hok]
        rw [hck] at HCK
        have HNO := hid hok
        clear hok hck HOKK
        go_wp2_with (go_at_call 58; (with_reducible refine (HCK.out _ HB.out).mono ?_); rintro e w1 ⟨rfl, hb1⟩; have HB1 := hid hb1; clear hb1)
        go_ret2
        have hE : newE (zs.map CeR.x) = 230 := by
          unfold newE
          rw [if_neg (by simpa using hl), if_neg]
          intro h
          have h2 := List.all_eq_true.1 h zs[k].x (List.mem_map_of_mem (List.getElem_mem hlt))
          rw [← HY.out] at h2
          exact HNO.out h2
        exact .inr ⟨by rw [hE]; decide, by rw [hE]; rfl, HB.out.trans (HB1.out.mono HB.out.size)⟩
    · go_wp2
      go_ret2
      have hkl : k = zs.length := by omega
      have hE : newE (zs.map CeR.x) = 0 := by
        unfold newE
        rw [if_neg (by simpa using hl), if_pos]
        refine List.all_eq_true.2 (fun x hx => ?_)
        obtain ⟨z, hz, rfl⟩ := List.mem_map.1 hx
        exact HALL.out z (by rw [hkl, List.take_length]; exact hz)
      have HM2 := HM.out
      rw [hkl, List.take_length] at HM2
      exact .inl ⟨hE, _, _, rfl, ⟨_, _, HM2⟩, fun k hk => hk.1, HB.out⟩
theorem rnew_any (p : Option Addr) (c : Nat) (zs : List CeR) (w : World) (hc : zs.length ≤ c) (hm : c ≤ maxLen) (hrow : Row w p (ceRow zs)) (hsl : ∀ z ∈ zs, SlAt w z.p z.c z.x.came) (hcm : ∀ z ∈ zs, z.x.came.length ≤ 17592186043904) :
    Calls Try.prog 49 #[.slice p zs.length c] w (NewTell w hdR (zs.map CeR.x)) := by
  by_cases hl : 4096 < zs.length
  · exact rnew_long p c zs w hc hm hl
  · exact rnew_walk p c zs w hc hm hrow hsl hcm (by omega)
end Go.Proofs.Ythmockfeffikjaa
namespace Go.Proofs.Ythmockfeffikjaa
open Go.RowKit
variable {W : World} {base d : Nat} {v : Value} {ys : List CeR} {S : Mem} {fp : Nat → Prop}

/-- What holds while a region goes on whose variable may be laid ahead of the call or behind it. -/
structure LR (W : World) (a : Ac) (w' : World) : Prop where
  b : Below W.heap.size W w'
  a : AcBlk w' W.heap.size a
theorem LR.drew {a : Ac} {w' : World} (h : LR W a w') : LR W a w'.drew := ⟨h.b.drew, h.a⟩
theorem LR.lt {a : Ac} {w' : World} (h : LR W a w') : W.heap.size < w'.heap.size := (Array.getElem?_eq_some_iff.1 h.a).1
theorem LR.below {a : Ac} {w' w2 : World} (h : LR W a w') (hb : Below w'.heap.size w' w2) : LR W a w2 := ⟨h.b.trans (hb.mono h.b.size), h.a.below hb⟩
theorem LR.alloc {a : Ac} {w' : World} (h : LR W a w') (o : Obj) : LR W a (w'.alloc o) := ⟨h.b.alloc h.b.size _, h.a.alloc o⟩
theorem LR.set {a : Ac} {w' : World} (h : LR W a w') {b : Nat} (hb : W.heap.size < b) (o : Nat) (u : Value) : LR W a (w'.setCell ⟨b, o, none⟩ u) := by
  refine ⟨h.b.setCell (by simp; omega) _, ?_⟩
  exact (Below.heap_setCell _ _ _ _ (by show W.heap.size ≠ b; omega)).trans h.a

set_option maxRecDepth 100000 in
set_option maxHeartbeats 2000000 in
theorem rwaits_no (H : MemIs W base d hdR v ys S fp) (wk : Int) (a : Ac) (hno : a.cell < 0 ∨ (ys.length : Int) ≤ a.cell) :
    Calls Try.prog 50 #[.pointer (some ⟨d, 0, none⟩), i64 wk, a.val] W fun e w' => e = .returned (.bool ((S.look wk a).2.2 == 231)) ∧ Below W.heap.size W w' := by
  rw [H.look_no hno]
  obtain ⟨c0, c1⟩ := hdR_cells H.head
  have hld := (Array.getElem?_eq_some_iff.1 H.head).1
  obtain ⟨p, c, rfl, hr⟩ := own_shape H.own
  obtain ⟨ak, ac, ao, an⟩ := a
  dsimp only at hno
  unfold Ac.val
  dsimp only
  have hld1 : d < W.heap.size + 1 := by omega
  have hlen : ys.length ≤ maxLen := by
    rcases H.own.2 with ⟨_, h⟩ | ⟨_, cap, _, _, _, _, h1, h2, _⟩ <;> omega
  unfold maxLen at hlen
  clear hr H
  by_cases h0 : ac < 0
  · have e1 : decide (ac < 0) = true := by simpa using h0
    clear hno
    go_enter Try.func50, Try.ntmps50
    go_upto_region 1 with (fail)
    go_quiet (fail)
    go_wp2_with fail
    go_ret
    exact ⟨rfl, below_drewN ((Below.refl _ _).alloc (Nat.le_refl _) _) _⟩
  · have e1 : decide (ac < 0) = false := by simpa using h0
    have e2 : decide ((ys.length : Int) ≤ ac) = true := by simp; omega
    go_enter Try.func50, Try.ntmps50
    go_upto_region 1 with (fail)
    go_quiet (fail)
    go_wp2_with fail
    go_ret
    exact ⟨rfl, below_drewN ((Below.refl _ _).alloc (Nat.le_refl _) _) _⟩

set_option maxRecDepth 100000 in
set_option maxHeartbeats 4000000 in
theorem rwaits_yes (H : MemIs W base d hdR v ys S fp) (wk : Int) (a : Ac) (k : Nat) (hk : k < ys.length) (he : a.cell = k) :
    Calls Try.prog 50 #[.pointer (some ⟨d, 0, none⟩), i64 wk, a.val] W fun e w' => e = .returned (.bool ((S.look wk a).2.2 == 231)) ∧ Below W.heap.size W w' := by
  rw [H.look hk he]
  obtain ⟨c0, _⟩ := hdR_cells H.head
  have hld := (Array.getElem?_eq_some_iff.1 H.head).1
  have hy := List.getElem_mem hk
  have hsl := H.sl _ hy
  have hcm := ok_came (H.ok _ hy)
  obtain ⟨g, c, rfl, hlg⟩ := own_block H.own (by omega)
  have hr : Row W (some ⟨g, 0, none⟩) (ceRow ys) := by
    obtain ⟨p, c', e, hr⟩ := own_shape H.own
    injection e with e1; rw [e1]; exact hr
  obtain ⟨r0, r1, r2, r3, r4, r5, r6⟩ := ce_cells hr k hk
  simp only [Nat.zero_add] at r0 r1 r2 r3 r4 r5 r6
  have HONE := hid (fun w1 (hb : Below W.heap.size W w1) => rone_any ys[k].x ys[k].p ys[k].c wk a w1 (hsl.below hb) (by omega))
  obtain ⟨ak, ac, ao, an⟩ := a
  dsimp only at he
  subst he
  have hlen : ys.length ≤ maxLen := by
    rcases H.own.2 with ⟨_, h⟩ | ⟨_, cap, _, _, _, _, h1, h2, _⟩ <;> omega
  unfold maxLen at hlen
  generalize ys[k] = y at *
  obtain ⟨⟨kind, n, owner, need, came, turns, there⟩, p, c2⟩ := y
  dsimp only at *
  generalize oneP ⟨kind, n, owner, need, came, turns, there⟩ wk ⟨ak, k, ao, an⟩ = r at HONE ⊢
  obtain ⟨⟨kind', n', owner', need', came', turns', there'⟩, V, E⟩ := r
  unfold CeTell Ce.val Ac.val at HONE
  unfold Ac.val
  dsimp only [List.cons_append, List.nil_append] at *
  have hkI : (k : Int) < ys.length := by omega
  have e1 : decide ((k : Int) < 0) = false := by simp
  have e2 : decide ((ys.length : Int) ≤ k) = false := by simp; omega
  clear hr H hsl hcm hy
  have hld1 : d < W.heap.size + 1 := by omega
  go_enter Try.func50, Try.ntmps50
  go_upto_region 1 with (fail)
  go_quiet (fail)
  go_upto_region 3 with (fail)
  obtain ⟨W2, hW2⟩ : ∃ W2, W2 = (W.alloc (.cells #[i64 ak, i64 k, i64 ao, i64 an] 34)).drewN nq := ⟨_, rfl⟩
  rw [← hW2]
  have hL2 : LR W ⟨ak, k, ao, an⟩ W2 := by rw [hW2]; exact ⟨below_drewN ((Below.refl _ _).alloc (Nat.le_refl _) _) _, acblk_new W ⟨ak, k, ao, an⟩⟩
  clear hW2
  have hzA := hL2.lt
  have hld2 : LR W ⟨ak, k, ao, an⟩ W2.drew := hL2.drew
  have q0 : ∀ w', LR W ⟨ak, k, ao, an⟩ w' → w'.cell? ⟨d, 0, none⟩ = some (.slice (some ⟨g, 0, none⟩) ys.length c) := fun w' hb => (hb.b.cell (p := ⟨d, 0, none⟩) hld).trans c0
  have a0 : ∀ w', LR W ⟨ak, k, ao, an⟩ w' → w'.cell? ⟨W.heap.size, 0, none⟩ = some (i64 ak) := fun w' hb => hb.a.facts.1.1
  have a1 : ∀ w', LR W ⟨ak, k, ao, an⟩ w' → w'.cell? ⟨W.heap.size, 1, none⟩ = some (i64 k) := fun w' hb => hb.a.facts.1.2.1
  have a2 : ∀ w', LR W ⟨ak, k, ao, an⟩ w' → w'.cell? ⟨W.heap.size, 2, none⟩ = some (i64 ao) := fun w' hb => hb.a.facts.1.2.2.1
  have a3 : ∀ w', LR W ⟨ak, k, ao, an⟩ w' → w'.cell? ⟨W.heap.size, 3, none⟩ = some (i64 an) := fun w' hb => hb.a.facts.1.2.2.2
  have hglt : g < W.heap.size := hlg.2.1
  have up : ∀ w' (j : Nat) (u : Value), LR W ⟨ak, k, ao, an⟩ w' → W.cell? ⟨g, j, none⟩ = some u → w'.cell? ⟨g, j, none⟩ = some u := fun w' j u hb h => (hb.b.cell (p := ⟨g, j, none⟩) hglt).trans h
  have b0 := fun w' (hb : LR W ⟨ak, k, ao, an⟩ w') => up w' _ _ hb r0
  have b1 := fun w' (hb : LR W ⟨ak, k, ao, an⟩ w') => up w' _ _ hb r1
  have b2 := fun w' (hb : LR W ⟨ak, k, ao, an⟩ w') => up w' _ _ hb r2
  have b3 := fun w' (hb : LR W ⟨ak, k, ao, an⟩ w') => up w' _ _ hb r3
  have b4 := fun w' (hb : LR W ⟨ak, k, ao, an⟩ w') => up w' _ _ hb r4
  have b5 := fun w' (hb : LR W ⟨ak, k, ao, an⟩ w') => up w' _ _ hb r5
  have b6 := fun w' (hb : LR W ⟨ak, k, ao, an⟩ w') => up w' _ _ hb r6
  clear up c0 r0 r1 r2 r3 r4 r5 r6
  go_region_held3 (fun w' => LR W ⟨ak, k, ao, an⟩ w') (first | (with_reducible assumption) | (with_reducible ((repeat (first | refine LR.drew ?_ | refine LR.alloc ?_ _ | refine LR.set ?_ (by assumption) _ _)); assumption)))
    (first
      | (go_at_call 51; (with_reducible refine (HONE.out _ (LR.b (a := ⟨ak, k, ao, an⟩) (by assumption))).mono ?_); rintro e w3 ⟨p3, c3, rfl, hs3, hb3⟩; have hq3 : LR W ⟨ak, k, ao, an⟩ w3 := LR.below (by assumption) hb3; have hzB := hq3.lt; have hC3 : CeBlk w3 W2.heap.size ce0 none 0 := (hb3.block _ (by simp)).trans (heap_alloc_new W2 _); have HS3 := hid hs3; clear hs3 hb3; obtain ⟨⟨y0, y1, y2, y3, y4, y5, y6⟩, yf, yl⟩ := hC3.facts; clear hC3; dsimp only [ce0, List.length_nil] at y0 y1 y2 y3 y4 y5 y6)
      | (go_at_call 51; (with_reducible refine (HONE.out _ (LR.b (a := ⟨ak, k, ao, an⟩) (by assumption))).mono ?_); rintro e w3 ⟨p3, c3, rfl, hs3, hb3⟩; have hq3 : LR W ⟨ak, k, ao, an⟩ w3 := LR.below (by assumption) hb3; have hzB := hq3.lt; have HS3 := hid hs3; clear hs3 hb3))
  all_goals
    go_wp2_with fail
    go_ret
    exact ⟨rfl, LR.b (a := ⟨ak, k, ao, an⟩) (by assumption)⟩
theorem rwaits_any (H : MMach W base d hdR S fp) (wk : Int) (a : Ac) :
    Calls Try.prog 50 #[.pointer (some ⟨d, 0, none⟩), i64 wk, a.val] W fun e w' => e = .returned (.bool ((S.look wk a).2.2 == 231)) ∧ Below W.heap.size W w' := by
  obtain ⟨v, ys, H⟩ := H
  by_cases h : a.cell < 0 ∨ (ys.length : Int) ≤ a.cell
  · exact rwaits_no H wk a h
  · exact rwaits_yes H wk a a.cell.toNat (by omega) (by omega)
end Go.Proofs.Ythmockfeffikjaa
namespace Go.Proofs.Ythmockfeffikjaa
open Go.RowKit
variable {W : World} {base d : Nat} {v : Value} {ys : List CeR} {S : Mem} {fp : Nat → Prop}

set_option maxRecDepth 100000 in
set_option maxHeartbeats 2000000 in
theorem rdo_no (HM : MMach W base d hdR S fp) (H : MemIs W base d hdR v ys S fp) (wk : Int) (a : Ac) (hno : a.cell < 0 ∨ (ys.length : Int) ≤ a.cell) :
    Calls Try.prog 37 #[.pointer (some ⟨d, 0, none⟩), i64 wk, a.val] W (DoTell W base d hdR S fp wk a) := by
  have HB := hid (Nat.le_trans H.bd (Nat.le_of_lt (H.lt _ H.fd)))
  have HMM := hid HM
  unfold DoTell Mem.step Mem.tell
  rw [H.look_no hno]
  rw [if_neg (by decide), if_neg (by decide)]
  obtain ⟨c0, c1⟩ := hdR_cells H.head
  have hld := (Array.getElem?_eq_some_iff.1 H.head).1
  obtain ⟨p, c, rfl, hr⟩ := own_shape H.own
  obtain ⟨ak, ac, ao, an⟩ := a
  dsimp only at hno
  unfold Ac.val
  dsimp only
  have hld1 : d < W.heap.size + 1 := by omega
  have hlen : ys.length ≤ maxLen := by
    rcases H.own.2 with ⟨_, h⟩ | ⟨_, cap, _, _, _, _, h1, h2, _⟩ <;> omega
  unfold maxLen at hlen
  clear hr H HM
  by_cases h0 : ac < 0
  · have e1 : decide (ac < 0) = true := by simpa using h0
    clear hno
    go_enter Try.func37, Try.ntmps37
    go_upto_region 1 with (fail)
    go_quiet (fail)
    go_wp2_with fail
    have hb : Below W.heap.size W ((W.alloc (.cells #[i64 ak, i64 ac, i64 ao, i64 an] 34)).drewN nq) := below_drewN ((Below.refl _ _).alloc (Nat.le_refl _) _) _
    exact bodyPost_ret (v := .tuple #[i64 0, i64 230]) (by simp [results, Try.results37, go_sem]) rfl ⟨rfl, fp, HMM.out.below hb, fun _ h => .inl h, Turn.of_below hb, hb.mono HB.out⟩
  · have e1 : decide (ac < 0) = false := by simpa using h0
    have e2 : decide ((ys.length : Int) ≤ ac) = true := by simp; omega
    go_enter Try.func37, Try.ntmps37
    go_upto_region 1 with (fail)
    go_quiet (fail)
    go_wp2_with fail
    have hb : Below W.heap.size W ((W.alloc (.cells #[i64 ak, i64 ac, i64 ao, i64 an] 34)).drewN nq) := below_drewN ((Below.refl _ _).alloc (Nat.le_refl _) _) _
    exact bodyPost_ret (v := .tuple #[i64 0, i64 230]) (by simp [results, Try.results37, go_sem]) rfl ⟨rfl, fp, HMM.out.below hb, fun _ h => .inl h, Turn.of_below hb, hb.mono HB.out⟩
/-- Behind the call of One: the result's block, and where its slice lies. -/
def RCut (W : World) (a : Ac) (y : CeR) (x' : Ce) (V E : Int) (v8 v9 v10 : Value) (wx : World) : Prop :=
  ∃ b8 p3 c3, v8 = .pointer (some ⟨b8, 0, none⟩) ∧ v9 = i64 V ∧ v10 = i64 E ∧ LR W a wx ∧ CeBlk wx b8 x' p3 c3 ∧ SlAt wx p3 c3 x'.came ∧ W.heap.size < b8 ∧ ((p3 = y.p ∧ c3 = y.c ∧ x'.came = y.x.came) ∨ ∀ q, p3 = some q → W.heap.size ≤ q.block ∧ q.block < wx.heap.size)
theorem slat_st {w W : World} {y : CeR} {x' : Ce} {p3 : Option Addr} {c3 b : Nat} (hs : SlAt w p3 c3 x'.came) (hy : SlAt W y.p y.c y.x.came) (hb : W.heap.size ≤ b)
    (hf : (p3 = y.p ∧ c3 = y.c ∧ x'.came = y.x.came) ∨ ∀ q, p3 = some q → q.block ≠ b) (v0 v1 v2 v3 v4 v5 v6 : Value) :
    SlAt (((((((w.setCell ⟨b, 0, none⟩ v0).setCell ⟨b, 1, none⟩ v1).setCell ⟨b, 2, none⟩ v2).setCell ⟨b, 3, none⟩ v3).setCell ⟨b, 4, none⟩ v4).setCell ⟨b, 5, none⟩ v5).setCell ⟨b, 6, none⟩ v6) p3 c3 x'.came := by
  rcases hf with ⟨h1, h2, h3⟩ | hf
  · subst h1 h2
    rw [h3] at hs ⊢
    repeat (refine SlAt.setL ?_ hy _ _ _ hb)
    exact hs
  · repeat (refine SlAt.set ?_ _ _ _ hf)
    exact hs

set_option maxRecDepth 100000 in
set_option maxHeartbeats 1000000 in
theorem rdo_cut (H : MemIs W base d hdR v ys S fp) (wk : Int) (a : Ac) (k : Nat) (hk : k < ys.length) (he : a.cell = k) :
    Calls Try.prog 37 #[.pointer (some ⟨d, 0, none⟩), i64 wk, a.val] W (DoTell W base d hdR S fp wk a) := by
  have HM := hid H
  have hLK := H.look (wk := wk) hk he
  obtain ⟨c0, c1⟩ := hdR_cells H.head
  have hld := (Array.getElem?_eq_some_iff.1 H.head).1
  have hy := List.getElem_mem hk
  have hsl := H.sl _ hy
  have hcm := ok_came (H.ok _ hy)
  have HFS := hid (H.fs _ hy)
  have HAP := hid (H.ap _ hy)
  obtain ⟨g, c, rfl, hlg⟩ := own_block H.own (by omega)
  have hr : Row W (some ⟨g, 0, none⟩) (ceRow ys) := by
    obtain ⟨p, c', e, hr⟩ := own_shape H.own
    injection e with e1; rw [e1]; exact hr
  obtain ⟨r0, r1, r2, r3, r4, r5, r6⟩ := ce_cells hr k hk
  simp only [Nat.zero_add] at r0 r1 r2 r3 r4 r5 r6
  have HOKN := hid (fun (h : (oneP ys[k].x wk a).2.2 = 0) => oneP_ok ys[k].x wk a h)
  have HONE := hid (fun w1 (hb : Below W.heap.size W w1) => rone_anyN ys[k].x ys[k].p ys[k].c wk a w1 (hsl.below hb) (by omega))
  obtain ⟨ak, ac, ao, an⟩ := a
  dsimp only at he
  subst he
  have hlen : ys.length ≤ maxLen := by
    rcases H.own.2 with ⟨_, h⟩ | ⟨_, cap, _, _, _, _, h1, h2, _⟩ <;> omega
  unfold maxLen at hlen
  have HSL := hid hsl
  generalize ys[k] = y at *
  obtain ⟨⟨kind, n, owner, need, came, turns, there⟩, p, c2⟩ := y
  dsimp only at *
  unfold DoTell Mem.step Mem.tell
  rw [hLK]
  clear hLK
  dsimp only [Int.toNat_natCast]
  rw [IntWalk.i64_left]
  generalize oneP ⟨kind, n, owner, need, came, turns, there⟩ wk ⟨ak, k, ao, an⟩ = r at HONE HOKN ⊢
  obtain ⟨⟨kind', n', owner', need', came', turns', there'⟩, V, E⟩ := r
  unfold CeTellN Ce.val Ac.val at HONE
  unfold Ac.val
  dsimp only [List.cons_append, List.nil_append] at *
  have hkI : (k : Int) < ys.length := by omega
  have e1 : decide ((k : Int) < 0) = false := by simp
  have e2 : decide ((ys.length : Int) ≤ k) = false := by simp; omega
  have e3 : decide (ys.length ≤ k) = false := by simpa using hk
  have HKL := hid hk
  clear hr H hsl hcm hy hk
  have hld1 : d < W.heap.size + 1 := by omega
  go_enter Try.func37, Try.ntmps37
  go_upto_region 1 with (fail)
  go_quiet (fail)
  go_upto_region 3 with (fail)
  obtain ⟨W2, hW2⟩ : ∃ W2, W2 = (W.alloc (.cells #[i64 ak, i64 k, i64 ao, i64 an] 34)).drewN nq := ⟨_, rfl⟩
  rw [← hW2]
  have hL2 : LR W ⟨ak, k, ao, an⟩ W2 := by rw [hW2]; exact ⟨below_drewN ((Below.refl _ _).alloc (Nat.le_refl _) _) _, acblk_new W ⟨ak, k, ao, an⟩⟩
  clear hW2
  have hzA := hL2.lt
  have hglt : g < W.heap.size := hlg.2.1
  go_cut [8, 9, 10] from 24 (fun v8 v9 v10 wx => RCut W ⟨ak, k, ao, an⟩ ⟨⟨kind, n, owner, need, came, turns, there⟩, p, c2⟩ ⟨kind', n', owner', need', came', turns', there'⟩ V E v8 v9 v10 wx)
  case first =>
    have hld2 : LR W ⟨ak, k, ao, an⟩ W2.drew := hL2.drew
    have q0 : ∀ w', LR W ⟨ak, k, ao, an⟩ w' → w'.cell? ⟨d, 0, none⟩ = some (.slice (some ⟨g, 0, none⟩) ys.length c) := fun w' hb => (hb.b.cell (p := ⟨d, 0, none⟩) hld).trans c0
    have a0 : ∀ w', LR W ⟨ak, k, ao, an⟩ w' → w'.cell? ⟨W.heap.size, 0, none⟩ = some (i64 ak) := fun w' hb => hb.a.facts.1.1
    have a1 : ∀ w', LR W ⟨ak, k, ao, an⟩ w' → w'.cell? ⟨W.heap.size, 1, none⟩ = some (i64 k) := fun w' hb => hb.a.facts.1.2.1
    have a2 : ∀ w', LR W ⟨ak, k, ao, an⟩ w' → w'.cell? ⟨W.heap.size, 2, none⟩ = some (i64 ao) := fun w' hb => hb.a.facts.1.2.2.1
    have a3 : ∀ w', LR W ⟨ak, k, ao, an⟩ w' → w'.cell? ⟨W.heap.size, 3, none⟩ = some (i64 an) := fun w' hb => hb.a.facts.1.2.2.2
    have up : ∀ w' (j : Nat) (u : Value), LR W ⟨ak, k, ao, an⟩ w' → W.cell? ⟨g, j, none⟩ = some u → w'.cell? ⟨g, j, none⟩ = some u := fun w' j u hb h => (hb.b.cell (p := ⟨g, j, none⟩) hglt).trans h
    have b0 := fun w' (hb : LR W ⟨ak, k, ao, an⟩ w') => up w' _ _ hb r0
    have b1 := fun w' (hb : LR W ⟨ak, k, ao, an⟩ w') => up w' _ _ hb r1
    have b2 := fun w' (hb : LR W ⟨ak, k, ao, an⟩ w') => up w' _ _ hb r2
    have b3 := fun w' (hb : LR W ⟨ak, k, ao, an⟩ w') => up w' _ _ hb r3
    have b4 := fun w' (hb : LR W ⟨ak, k, ao, an⟩ w') => up w' _ _ hb r4
    have b5 := fun w' (hb : LR W ⟨ak, k, ao, an⟩ w') => up w' _ _ hb r5
    have b6 := fun w' (hb : LR W ⟨ak, k, ao, an⟩ w') => up w' _ _ hb r6
    clear up c0 c1 r0 r1 r2 r3 r4 r5 r6
    go_region_held3 (fun w' => LR W ⟨ak, k, ao, an⟩ w') (first | (with_reducible assumption) | (with_reducible ((repeat (first | refine LR.drew ?_ | refine LR.alloc ?_ _ | refine LR.set ?_ (by assumption) _ _)); assumption)))
      (first
        | (go_at_call 51; (with_reducible refine (HONE.out _ (LR.b (a := ⟨ak, k, ao, an⟩) (by assumption))).mono ?_); rintro e w3 ⟨p3, c3, rfl, hs3, hl3, hb3⟩; have hq3 : LR W ⟨ak, k, ao, an⟩ w3 := LR.below (by assumption) hb3; have hzB := hq3.lt; have hC3 : CeBlk w3 W2.heap.size ce0 none 0 := (hb3.block _ (by simp)).trans (heap_alloc_new W2 _); have HS3 := hid hs3; have HC3 := hid hC3; have HL3 := hid hl3; clear hs3 hb3 hl3; obtain ⟨⟨y0, y1, y2, y3, y4, y5, y6⟩, yf, yl⟩ := hC3.facts; clear hC3; dsimp only [ce0, List.length_nil] at y0 y1 y2 y3 y4 y5 y6)
        | (go_at_call 51; (with_reducible refine (HONE.out _ (LR.b (a := ⟨ak, k, ao, an⟩) (by assumption))).mono ?_); rintro e w3 ⟨p3, c3, rfl, hs3, hl3, hb3⟩; have hq3 : LR W ⟨ak, k, ao, an⟩ w3 := LR.below (by assumption) hb3; have hzB := hq3.lt; have HS3 := hid hs3; have HL3 := hid hl3; have HB3 := hid hb3; clear hs3 hb3 hl3))
    all_goals
      go_wp2_with fail
      go_meet
      have hzL := hL2.b.size
    · have hC : CeBlk (w3.alloc (.cells #[i64 kind', i64 n', i64 owner', i64 need', .slice p3 came'.length c3, i64 turns', .bool there'] 30)) w3.heap.size ⟨kind', n', owner', need', came', turns', there'⟩ p3 c3 := ceblk_new w3 ⟨kind', n', owner', need', came', turns', there'⟩ p3 c3
      refine ⟨w3.heap.size, p3, c3, rfl, rfl, rfl, by with_reducible assumption, hC, HS3.out.alloc _, hzB, ?_⟩
      rcases HL3.out with h | h
      · exact .inl h
      · exact .inr (fun q hq => ⟨Nat.le_trans hzL (h q hq).1, by have := (h q hq).2; simp; omega⟩)
    · have hC := ceblk_store HC3.out ⟨kind', n', owner', need', came', turns', there'⟩ p3 c3
      refine ⟨W2.heap.size, p3, c3, rfl, rfl, rfl, by with_reducible assumption, hC, slat_st (y := ⟨⟨kind, n, owner, need, came, turns, there⟩, p, c2⟩) (x' := ⟨kind', n', owner', need', came', turns', there'⟩) HS3.out HSL.out hzL ?_ _ _ _ _ _ _ _, hzA, ?_⟩
      · rcases HL3.out with h | h
        · exact .inl h
        · exact .inr (fun q hq => by have := (h q hq).1; simp at this; omega)
      · rcases HL3.out with h | h
        · exact .inl h
        · exact .inr (fun q hq => ⟨by have := (h q hq).1; simp at this; omega, by have := (h q hq).2; simp; omega⟩)
  case rest =>
    obtain ⟨b8, p3, c3, rfl, rfl, rfl, hL4, hC4, hs4, hb8, hp4⟩ := hcut
    have HL4 := hid hL4
    have HC4 := hid hC4
    have HS4 := hid hs4
    have HP4 := hid hp4
    clear hC4 hs4 hp4 hL2 hL4 r0 r1 r2 r3 r4 r5 r6
    by_cases hE : E = 0
    · subst hE
      have hokk := HOKN.out rfl
      have HOK := hid hokk
      have hb4 := HL4.out.b
      have hgd : g ≠ d := fun e => HM.out.nd (by rw [← e]; rfl)
      have HM4 := hid (HM.out.below hb4)
      have hA := HL4.out.a
      have q0 : ∀ w', DS wc g w' → w'.cell? ⟨d, 0, none⟩ = some (.slice (some ⟨g, 0, none⟩) ys.length c) := fun w' h => (h.cell (Ne.symm hgd)).trans ((hb4.cell (p := ⟨d, 0, none⟩) hld).trans c0)
      have hd2 : wc.cell? ⟨d, 1, none⟩ = some (i64 S.steps) := (hb4.cell (p := ⟨d, 1, none⟩) hld).trans c1
      have hfd : wc.frozen? ⟨d, 1, none⟩ = false := frozen_of_row _ _ _ _ _ HM4.out.head
      have hne0 : d ≠ g := Ne.symm hgd
      have a1 : ∀ w', DS wc g w' → w'.cell? ⟨W.heap.size, 1, none⟩ = some (i64 k) := fun w' h => (h.cell (by omega)).trans hA.facts.1.2.1
      have cc : ∀ w' (o : Nat), DS wc g w' → w'.cell? ⟨b8, o, none⟩ = wc.cell? ⟨b8, o, none⟩ := fun w' o h => h.cell (by omega)
      obtain ⟨⟨y0, y1, y2, y3, y4, y5, y6⟩, yf, yl⟩ := HC4.out.facts
      dsimp only at y0 y1 y2 y3 y4 y5 y6
      have b0 := fun w' (h : DS wc g w') => (cc w' 0 h).trans y0
      have b1 := fun w' (h : DS wc g w') => (cc w' 1 h).trans y1
      have b2 := fun w' (h : DS wc g w') => (cc w' 2 h).trans y2
      have b3 := fun w' (h : DS wc g w') => (cc w' 3 h).trans y3
      have b4 := fun w' (h : DS wc g w') => (cc w' 4 h).trans y4
      have b5 := fun w' (h : DS wc g w') => (cc w' 5 h).trans y5
      have b6 := fun w' (h : DS wc g w') => (cc w' 6 h).trans y6
      clear cc y0 y1 y2 y3 y4 y5 y6 yf yl
      have hr4 : Row wc (some ⟨g, 0, none⟩) (ceRow ys) := by
        obtain ⟨p, c', e, hr⟩ := own_shape HM4.out.own
        injection e with e1; rw [e1]; exact hr
      obtain ⟨r0, r1, r2, r3, r4, r5, r6⟩ := ce_cells hr4 k HKL.out
      simp only [Nat.zero_add] at r0 r1 r2 r3 r4 r5 r6
      have gf : ∀ o, wc.frozen? ⟨g, o, none⟩ = false := fun o => by
        rcases HM4.out.own.2 with ⟨h0, _⟩ | ⟨g', cap, cur, hv, _, hh, _⟩
        · cases h0
        · cases hv; exact frozen_of_row _ _ _ _ _ hh
      have hk0 : (0 : Int) ≤ (k : Int) := by omega
      have HQ : Hid ((∀ q, p3 = some q → q.block < wc.heap.size ∧ q.block ≠ d ∧ q.block ≠ g) ∧ ∀ q, p3 = some q → fp q.block ∨ W.heap.size ≤ q.block) := by
        have hz := hb4.size
        rcases HP4.out with ⟨h1, _, _⟩ | h1
        · refine ⟨fun q hq => ?_, fun q hq => .inl (HFS.out q (h1.symm.trans hq))⟩
          have h2 := HAP.out q (h1.symm.trans hq)
          have h3 := HM.out.lt _ (HFS.out q (h1.symm.trans hq))
          exact ⟨by omega, h2.1, fun e => h2.2 (by rw [e]; rfl)⟩
        · exact ⟨fun q hq => by have := h1 q hq; exact ⟨this.2, by omega, by omega⟩, fun q hq => .inr (h1 q hq).1⟩
      have HGD := hid hgd
      have HB4 := hid hb4
      have HLD := hid hld
      clear hA hr4 c0 c1 hb4 hokk hgd
      have hDS : DS wc g wc.drew := ⟨rfl, fun _ _ => rfl⟩
      go_upto_region 6 with (fail)
      go_region_held3 (fun w' => DS wc g w') (first | (with_reducible assumption) | (with_reducible ((repeat (first | refine DS.drew ?_ | refine DS.set ?_ _ _)); exact DS.refl _ _))) (first | fail)
      go_wp2_with fail
      have hfpg : fp g := HM.out.fv g rfl
      have hbg : base ≤ g := own_ge HM.out.own g rfl
      have hbdl := HM.out.lt _ HM.out.fd
      obtain ⟨w5, hw5⟩ : ∃ w5, w5 = put7 wc g (k * 7) ⟨⟨kind', n', owner', need', came', turns', there'⟩, p3, c3⟩ := ⟨_, rfl⟩
      have ho5 : ∀ j, j ≠ g → w5.heap[j]? = wc.heap[j]? := fun j hj => by rw [hw5]; exact put7_other _ _ _ _ _ hj
      have hz5 : w5.heap.size = wc.heap.size := by rw [hw5]; exact put7_size _ _ _ _
      have hq5 : w5.os = wc.os ∧ w5.tape = wc.tape ∧ w5.output = wc.output := by rw [hw5]; exact ⟨(put7_grown _ _ _ _).os, (put7_grown _ _ _ _).tape, (put7_grown _ _ _ _).output⟩
      have HP := HM4.out.put k HKL.out ⟨⟨kind', n', owner', need', came', turns', there'⟩, p3, c3⟩ HOK.out HS4.out HQ.out.1 (wrap64 (S.steps + 1)) (w2 := (w5.setCell ⟨d, 1, none⟩ (i64 (wrap64 (S.steps + 1)))).drew)
        (heap_setCell_same w5 d 1 _ _ _ ((ho5 _ hne0).trans HM4.out.head)) (fun j hj => by rw [← hw5]; exact Below.heap_setCell _ _ _ _ hj) (by simp [hz5])
      have hother : ∀ j, j < W.heap.size → j ≠ d → j ≠ g → ((w5.setCell ⟨d, 1, none⟩ (i64 (wrap64 (S.steps + 1)))).drew).heap[j]? = W.heap[j]? := fun j hj h1 h2 =>
        (Below.heap_setCell _ _ _ _ h1).trans ((ho5 _ h2).trans (HB4.out.block j hj))
      have hsz : W.heap.size ≤ ((w5.setCell ⟨d, 1, none⟩ (i64 (wrap64 (S.steps + 1)))).drew).heap.size := by
        have := HB4.out.size
        simp [hz5]; omega
      have hg6 := grown_set w5 d 1 (i64 (wrap64 (S.steps + 1)))
      have hq6 : ((w5.setCell ⟨d, 1, none⟩ (i64 (wrap64 (S.steps + 1)))).drew).os = wc.os ∧ ((w5.setCell ⟨d, 1, none⟩ (i64 (wrap64 (S.steps + 1)))).drew).tape = wc.tape ∧ ((w5.setCell ⟨d, 1, none⟩ (i64 (wrap64 (S.steps + 1)))).drew).output = wc.output :=
        ⟨hg6.os.trans hq5.1, hg6.tape.trans hq5.2.1, hg6.output.trans hq5.2.2⟩
      unfold put7 at hw5
      dsimp only at hw5
      rw [← hw5]
      exact bodyPost_ret (v := .tuple #[i64 V, i64 0]) (by simp [results, Try.results37, go_sem]) rfl ⟨rfl, _, ⟨_, _, HP⟩, fun j hj => by
          rcases hj with h | ⟨q, hq, rfl⟩
          · exact .inl h
          · exact HQ.out.2 q hq,
        ⟨hq6.1.trans HB4.out.os, hq6.2.1.trans HB4.out.tape, hq6.2.2.trans HB4.out.output, hsz, fun j hj hn => hother j hj (fun e => hn (e ▸ HM.out.fd)) (fun e => hn (e ▸ hfpg))⟩,
        ⟨hq6.1.trans HB4.out.os, hq6.2.1.trans HB4.out.tape, hq6.2.2.trans HB4.out.output, hsz, fun j hj => hother j (by have := HM.out.bd; omega) (by have := HM.out.bd; omega) (by omega)⟩⟩
    · have hne : (E != 0) = true := by simpa using hE
      have HE := hid hE
      clear hE
      go_wp2_with fail
      have hbs := Nat.le_trans HM.out.bd (Nat.le_of_lt (HM.out.lt _ HM.out.fd))
      exact bodyPost_ret (v := .tuple #[i64 0, i64 E]) (by simp [results, Try.results37, go_sem]) rfl ⟨rfl, fp, ⟨_, _, HM.out.below HL4.out.b⟩, fun _ h => .inl h, Turn.of_below HL4.out.b, HL4.out.b.mono hbs⟩
theorem rdo_any (H : MMach W base d hdR S fp) (wk : Int) (a : Ac) :
    Calls Try.prog 37 #[.pointer (some ⟨d, 0, none⟩), i64 wk, a.val] W (DoTell W base d hdR S fp wk a) := by
  have H' := H
  obtain ⟨v, ys, h⟩ := H'
  by_cases hc : a.cell < 0 ∨ (ys.length : Int) ≤ a.cell
  · exact rdo_no H h wk a hc
  · exact rdo_cut h wk a a.cell.toNat (by omega) (by omega)
end Go.Proofs.Ythmockfeffikjaa
