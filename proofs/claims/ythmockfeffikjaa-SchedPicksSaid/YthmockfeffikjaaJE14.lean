/-
  The walk of New of the code's memory.
  The walk of All of the code's memory.
-/
import Derived.Test.YthmockfeffikjaaJE13
namespace Go.Proofs.Ythmockfeffikjaa
open Go.RowKit
variable {W w : World}

set_option maxRecDepth 100000 in
set_option maxHeartbeats 1000000 in
theorem new_long (p : Option Addr) (c : Nat) (zs : List CeR) (w : World) (hc : zs.length ≤ c) (hm : c ≤ maxLen) (hl : 4096 < zs.length) :
    Calls Try.prog 29 #[.slice p zs.length c] w (NewTell w hdM (zs.map CeR.x)) := by
  have hE : Hid (newE (zs.map CeR.x) = 3) := by unfold newE; rw [if_pos (by simpa using hl)]; exact rfl
  unfold maxLen at hm
  go_enter Try.func29, Try.ntmps29
  go_wp2
  go_ret2
  exact .inr ⟨by rw [hE.out]; decide, by rw [hE.out]; rfl, Below.refl _ _⟩

set_option maxRecDepth 100000 in
set_option maxHeartbeats 4000000 in
theorem new_walk (p : Option Addr) (c : Nat) (zs : List CeR) (w : World) (hc : zs.length ≤ c) (hm : c ≤ maxLen) (hrow : Row w p (ceRow zs)) (hsl : ∀ z ∈ zs, SlAt w z.p z.c z.x.came) (hcm : ∀ z ∈ zs, z.x.came.length ≤ 17592186043904) (hl : zs.length ≤ 4096) :
    Calls Try.prog 29 #[.slice p zs.length c] w (NewTell w hdM (zs.map CeR.x)) := by
  unfold maxLen at hm
  have HR := hid hrow
  have HSL := hid hsl
  have HCM := hid hcm
  clear hrow hsl hcm
  go_enter Try.func29, Try.ntmps29
  go_wp2
  go_loopw [15] (fun i wr => ∃ k : Nat, k ≤ zs.length ∧ i = .int .i64 k ∧ NI w hdM zs k wr) (fun i _ => zs.length - (intOf i).toNat)
  case atStart => exact ⟨0, Nat.zero_le _, rfl, NI.start zs hdM ((Below.refl _ _).alloc (Nat.le_refl _) _) (heap_alloc_new w _)⟩
  case round =>
    obtain ⟨k, hk, rfl, hall, hbw, hzw, v, ys, H, hyl⟩ := hrel
    have HALL := hid hall
    have HB := hid hbw
    have HM := hid H
    have HYL := hid hyl
    clear hall hbw H hyl
    by_cases hlt : k < zs.length
    · have hltI : (k : Int) < zs.length := by omega
      have hmem := List.getElem_mem hlt
      have hs := HSL.out _ hmem
      have hcm := HCM.out _ hmem
      obtain ⟨b, o, rfl, hbz, _⟩ := HR.out.at (by rw [ceRow_len]; omega)
      obtain ⟨r0, r1, r2, r3, r4, r5, r6⟩ := ce_cells (HR.out.below HB.out) k hlt
      have HOKK := hid (fun (e : okP zs[k].x = true) => e)
      obtain ⟨y, hy⟩ : ∃ y, y = zs[k] := ⟨_, rfl⟩
      rw [← hy] at r0 r1 r2 r3 r4 r5 r6 hs hcm
      have HY := hid hy
      clear hy
      have HCK := hid (fun w1 (hb : Below w.heap.size w w1) => check_any y.x y.p y.c w1 (hs.below hb) hcm)
      have HCP := hid (fun w1 (hb : Below w.heap.size w w1) => copied_any y.x y.p y.c w1 hcm (hs.below hb))
      clear hs hmem
      obtain ⟨⟨kind, n, owner, need, came, turns, there⟩, yp, yc⟩ := y
      unfold CopyTell at HCP
      unfold Ce.val at HCK HCP
      dsimp only at *
      by_cases hok : okP ⟨kind, n, owner, need, came, turns, there⟩ = true
      · have hck : ckP ⟨kind, n, owner, need, came, turns, there⟩ = 0 := by unfold ckP; rw [if_pos hok]
        rw [hck] at HCK
        have HOK := hid hok
        clear hok hck HOKK
        go_upto_region 10 with (go_at_call 46; (with_reducible refine (HCK.out _ (HB.out.alloc HB.out.size _)).mono ?_); rintro e w1 ⟨rfl, hb1⟩; have HB1 := hid hb1; clear hb1)
        have hB1 : Below wr.heap.size wr w1 := ((Below.refl _ wr).alloc (Nat.le_refl _) _).trans (HB1.out.mono (by simp))
        have hz1 : wr.heap.size + 1 ≤ w1.heap.size := by have := HB1.out.size; rwa [World.size_alloc] at this
        have hC1 : CeBlk w1 wr.heap.size ⟨kind, n, owner, need, came, turns, there⟩ yp yc := (ceblk_new wr ⟨kind, n, owner, need, came, turns, there⟩ yp yc).below HB1.out
        obtain ⟨⟨y0, y1, y2, y3, y4, y5, y6⟩, yf, yl⟩ := hC1.facts
        dsimp only at y0 y1 y2 y3 y4 y5 y6
        have hD1 : w1.heap[w.heap.size]? = some (hdM v 0) := (hB1.block _ hzw).trans HM.out.head
        obtain ⟨_, d1, _⟩ := hdM_cells hD1
        have HD1 := hid hD1
        have HBB := hid hB1
        clear hD1 hC1 yf yl r0 r1 r2 r3 r4 r5 r6 hB1
        go_region_law (first
          | (go_loud (refine step_app ECell rfl (.tmp 28) (.tmp 31) rfl w.heap.size v k (ceRow ys) rfl ((HOWN3.out).alloc _) ⟨_, 0, none⟩ 1 1 (CeR.cells ⟨⟨kind, n, owner, need, came, turns, there⟩, p3, c3⟩) rfl rfl (row_newAt _ _ _ _ (by simp)) (ceCells_one _) (by unfold maxLen; omega) (by omega) (by simp; omega) ?_); intro v4 w4 ho4 hg4 hs4; obtain ⟨vp4, vc4, rfl, _⟩ := own_row ho4; have HD4 : Hid (w4.heap[w.heap.size]? = some (hdM v 0)) := (hg4.block _ (by simp; omega) (fun e => HM.out.nd e.symm)).trans ((Below.heap_alloc _ _ _ (by omega)).trans HD3.out); have d4 := (hdM_cells HD4.out).2.1; have f4 : w4.frozen? ⟨w.heap.size, 1, none⟩ = false := frozen_of_row _ _ _ _ _ HD4.out; have HO4 := hid ho4; have HG4 := hid hg4; have HS4 := hid hs4; clear ho4 hg4 hs4)
          | (go_simp; go_at_call 47; (with_reducible refine (HCP.out _ (by first | exact HB.out.trans (HBB.out.mono HB.out.size) | exact (HB.out.trans (HBB.out.mono HB.out.size)).drew)).mono ?_); rintro e w3 ⟨p3, c3, rfl, ho3, hb3⟩; have HO3 := hid ho3; have hb3' : Below w1.heap.size w1 w3 := ⟨hb3.os, hb3.tape, hb3.output, hb3.size, hb3.block⟩; have HB3 := hid hb3'; have hbr3 : Below wr.heap.size wr w3 := HBB.out.trans (hb3'.mono HBB.out.size); have HOWN3 : Hid (w3.ownsRow w.heap.size 30 7 v k (ceRow ys)) := (by have := own_below HM.out.own hbr3; rw [HYL.out] at this; exact this); have hz3 : w1.heap.size ≤ w3.heap.size := hb3'.size;  have hzw3 : w.heap.size < w3.heap.size := (by omega); have d3 : w3.cell? ⟨w.heap.size, 1, none⟩ = some v := (hb3'.cell (p := ⟨w.heap.size, 1, none⟩) (by show w.heap.size < _; omega)).trans d1; have HD3 : Hid (w3.heap[w.heap.size]? = some (hdM v 0)) := (hb3'.block _ (by omega)).trans HD1.out; have HBR3 := hid hbr3; clear ho3 hb3 hb3' hbr3))
        all_goals
          go_wp2_with fail
          go_roundw
          case rel =>
            refine ⟨k + 1, by omega, by go_num, NI.push hlt (by rw [← HY.out]) HOK.out HB.out hzw HALL.out HM.out HYL.out (w2 := w3.alloc (.cells #[i64 kind, i64 n, i64 owner, i64 need, .slice p3 came.length c3, i64 turns, .bool there] 30)) (HBR3.out.alloc HBR3.out.size _) ((own_slat HO3.out).alloc _) (fun q hq => ?_) HO4.out HG4.out HS4.out (heap_setCell_same w4 w.heap.size 1 _ _ _ HD4.out) (fun j hj => Below.heap_setCell _ _ _ _ hj) (by simp) ⟨(grown_set w4 _ _ _).os, (grown_set w4 _ _ _).tape, (grown_set w4 _ _ _).output⟩⟩
            have h1 : w1.heap.size ≤ q.block := own_ge HO3.out q.block (by subst hq; rfl)
            have h2 := own_lt HO3.out q.block (by subst hq; rfl)
            exact ⟨by omega, by simp; omega⟩
          case measure => simp [intOf]; omega
      · have hck : ckP ⟨kind, n, owner, need, came, turns, there⟩ = 230 := by unfold ckP; rw [if_neg hok]
        rw [hck] at HCK
        have HNO := hid hok
        clear hok hck HOKK
        go_wp2_with (go_at_call 46; (with_reducible refine (HCK.out _ (HB.out.alloc HB.out.size _)).mono ?_); rintro e w1 ⟨rfl, hb1⟩; have HB1 := hid hb1; clear hb1)
        go_ret2
        have hE : newE (zs.map CeR.x) = 230 := by
          unfold newE
          rw [if_neg (by simpa using hl), if_neg]
          intro h
          have h2 := List.all_eq_true.1 h zs[k].x (List.mem_map_of_mem (List.getElem_mem hlt))
          rw [← HY.out] at h2
          exact HNO.out h2
        exact .inr ⟨by rw [hE]; decide, by rw [hE]; rfl, HB.out.trans ((((Below.refl _ wr).alloc (Nat.le_refl _) _).trans (HB1.out.mono (by simp))).mono HB.out.size)⟩
    · go_wp2
      go_ret2
      have hkl : k = zs.length := by omega
      have hE : newE (zs.map CeR.x) = 0 := by
        unfold newE
        rw [if_neg (by simpa using hl), if_pos]
        refine List.all_eq_true.2 (fun x hx => ?_)
        obtain ⟨z, hz, rfl⟩ := List.mem_map.1 hx
        exact HALL.out z (by rw [hkl, List.take_length]; exact hz)
      have HM2 := HM.out
      rw [hkl, List.take_length] at HM2
      exact .inl ⟨hE, _, _, rfl, ⟨_, _, HM2⟩, fun k hk => hk.1, HB.out⟩
theorem new_any (p : Option Addr) (c : Nat) (zs : List CeR) (w : World) (hc : zs.length ≤ c) (hm : c ≤ maxLen) (hrow : Row w p (ceRow zs)) (hsl : ∀ z ∈ zs, SlAt w z.p z.c z.x.came) (hcm : ∀ z ∈ zs, z.x.came.length ≤ 17592186043904) :
    Calls Try.prog 29 #[.slice p zs.length c] w (NewTell w hdM (zs.map CeR.x)) := by
  by_cases hl : 4096 < zs.length
  · exact new_long p c zs w hc hm hl
  · exact new_walk p c zs w hc hm hrow hsl hcm (by omega)
end Go.Proofs.Ythmockfeffikjaa
namespace Go.Proofs.Ythmockfeffikjaa
open Go.RowKit
variable {W : World} {base d : Nat} {v : Value} {ys : List CeR} {S : Mem} {fp : Nat → Prop}

def hdL (v : Value) (_ : Int) : Obj := .cells #[v] 25 (0, 0)
def AllTell (W : World) (l : List Ce) (e : Ending) (w' : World) : Prop :=
  ∃ v zs, e = .returned (.func (.func 53) #[] #[.pointer (some ⟨W.heap.size, 0, none⟩)]) ∧ MemIs w' W.heap.size W.heap.size hdL v zs ⟨l, 0⟩ (fun j => W.heap.size ≤ j ∧ j < w'.heap.size) ∧ Below W.heap.size W w'

set_option maxRecDepth 100000 in
set_option maxHeartbeats 4000000 in
theorem all_walk (H : MemIs W base d hdM v ys S fp) (hlen : S.cs.length ≤ 1000000) : Calls Try.prog 45 #[.pointer (some ⟨d, 0, none⟩)] W (AllTell W S.cs) := by
  rw [H.len] at hlen
  obtain ⟨_, c1, _⟩ := hdM_cells H.head
  have hld := (Array.getElem?_eq_some_iff.1 H.head).1
  obtain ⟨p, c, rfl, hnc, hcm, hrow, hpn, _⟩ := own_row H.own
  unfold maxLen at hcm
  have HR := hid hrow
  have HSL := hid H.sl
  have HOKS := hid H.ok
  have HCS := hid H.cs
  clear hrow H
  have hld1 : d < W.heap.size + 1 := by omega
  go_enter Try.func45, Try.ntmps45
  go_wp2
  go_loopw [13] (fun i wr => ∃ k : Nat, k ≤ ys.length ∧ i = .int .i64 k ∧ NI W hdL ys k wr) (fun i _ => ys.length - (intOf i).toNat)
  case atStart => exact ⟨0, Nat.zero_le _, rfl, NI.start ys hdL ((Below.refl _ _).alloc (Nat.le_refl _) _) (heap_alloc_new W _)⟩
  case round =>
    obtain ⟨k, hk, rfl, hall, hbw, hzw, v, zs, H, hyl⟩ := hrel
    have HALL := hid hall
    have HB := hid hbw
    have HM := hid H
    have HYL := hid hyl
    clear hall hbw H hyl
    by_cases hlt : k < ys.length
    · have hltI : (k : Int) < ys.length := by omega
      have hmem := List.getElem_mem hlt
      have hs := HSL.out _ hmem
      have hcm' := ok_came (HOKS.out _ hmem)
      have HOK := hid (HOKS.out _ hmem)
      obtain ⟨b, o, rfl, hbz, _⟩ := HR.out.at (by rw [ceRow_len]; omega)
      obtain ⟨r0, r1, r2, r3, r4, r5, r6⟩ := ce_cells (HR.out.below HB.out) k hlt
      obtain ⟨y, hy⟩ : ∃ y, y = ys[k] := ⟨_, rfl⟩
      rw [← hy] at r0 r1 r2 r3 r4 r5 r6 hs hcm' HOK
      have HY := hid hy
      clear hy
      have HCP := hid (fun w1 (hb : Below W.heap.size W w1) => copied_any y.x y.p y.c w1 (by omega) (hs.below hb))
      clear hs hmem
      obtain ⟨⟨kind, n, owner, need, came, turns, there⟩, yp, yc⟩ := y
      unfold CopyTell at HCP
      unfold Ce.val at HCP
      dsimp only at *
      go_upto_region 6 with (fail)
      obtain ⟨w1, hw1⟩ : ∃ w1, w1 = wr.alloc (.cells #[i64 kind, i64 n, i64 owner, i64 need, .slice yp came.length yc, i64 turns, .bool there] 30) := ⟨_, rfl⟩
      rw [← hw1]
      have hB1 : Below wr.heap.size wr w1 := by rw [hw1]; exact (Below.refl _ wr).alloc (Nat.le_refl _) _
      have hz1 : wr.heap.size + 1 ≤ w1.heap.size := by rw [hw1]; simp
      have hC1 : CeBlk w1 wr.heap.size ⟨kind, n, owner, need, came, turns, there⟩ yp yc := by rw [hw1]; exact ceblk_new wr ⟨kind, n, owner, need, came, turns, there⟩ yp yc
      clear hw1
      obtain ⟨⟨y0, y1, y2, y3, y4, y5, y6⟩, yf, yl⟩ := hC1.facts
      dsimp only at y0 y1 y2 y3 y4 y5 y6
      have hD1 : w1.heap[W.heap.size]? = some (hdL v 0) := (hB1.block _ hzw).trans HM.out.head
      have d1 : w1.cell? ⟨W.heap.size, 0, none⟩ = some v := cell_of_row _ _ 0 _ _ _ hD1
      have HD1 := hid hD1
      have HBB := hid hB1
      clear hD1 hC1 yf yl r0 r1 r2 r3 r4 r5 r6 hB1
      go_region_law (first
          | (go_loud (refine step_app ECell rfl (.tmp 17) (.tmp 20) rfl W.heap.size v k (ceRow zs) rfl ((HOWN3.out).alloc _) ⟨_, 0, none⟩ 1 1 (CeR.cells ⟨⟨kind, n, owner, need, came, turns, there⟩, p3, c3⟩) rfl rfl (row_newAt _ _ _ _ (by simp)) (ceCells_one _) (by unfold maxLen; omega) (by omega) (by simp; omega) ?_); intro v4 w4 ho4 hg4 hs4; obtain ⟨vp4, vc4, rfl, _⟩ := own_row ho4; have HD4 : Hid (w4.heap[W.heap.size]? = some (hdL v 0)) := (hg4.block _ (by simp; omega) (fun e => HM.out.nd e.symm)).trans ((Below.heap_alloc _ _ _ (by omega)).trans HD3.out); have d4 : w4.cell? ⟨W.heap.size, 0, none⟩ = some v := cell_of_row _ _ 0 _ _ _ HD4.out; have f4 : w4.frozen? ⟨W.heap.size, 0, none⟩ = false := frozen_of_row _ _ _ _ _ HD4.out; have HO4 := hid ho4; have HG4 := hid hg4; have HS4 := hid hs4; clear ho4 hg4 hs4)
          | (go_simp; go_at_call 47; (with_reducible refine (HCP.out _ (by first | exact HB.out.trans (HBB.out.mono HB.out.size) | exact (HB.out.trans (HBB.out.mono HB.out.size)).drew)).mono ?_); rintro e w3 ⟨p3, c3, rfl, ho3, hb3⟩; have HO3 := hid ho3; have hb3' : Below w1.heap.size w1 w3 := ⟨hb3.os, hb3.tape, hb3.output, hb3.size, hb3.block⟩; have HB3 := hid hb3'; have hbr3 : Below wr.heap.size wr w3 := HBB.out.trans (hb3'.mono HBB.out.size); have HOWN3 : Hid (w3.ownsRow W.heap.size 30 7 v k (ceRow zs)) := (by have := own_below HM.out.own hbr3; rw [HYL.out] at this; exact this); have hz3 : w1.heap.size ≤ w3.heap.size := hb3'.size;  have hzw3 : W.heap.size < w3.heap.size := (by omega); have d3 : w3.cell? ⟨W.heap.size, 0, none⟩ = some v := (hb3'.cell (p := ⟨W.heap.size, 0, none⟩) (by show W.heap.size < _; omega)).trans d1; have HD3 : Hid (w3.heap[W.heap.size]? = some (hdL v 0)) := (hb3'.block _ (by omega)).trans HD1.out; have HBR3 := hid hbr3; clear ho3 hb3 hb3' hbr3))
      all_goals
        go_wp2_with fail
        go_roundw
        case rel =>
          refine ⟨k + 1, by omega, by go_num, NI.push hlt (by rw [← HY.out]) HOK.out HB.out hzw HALL.out HM.out HYL.out (w2 := w3.alloc (.cells #[i64 kind, i64 n, i64 owner, i64 need, .slice p3 came.length c3, i64 turns, .bool there] 30)) (HBR3.out.alloc HBR3.out.size _) ((own_slat HO3.out).alloc _) (fun q hq => ?_) HO4.out HG4.out HS4.out (heap_setCell_same w4 W.heap.size 0 _ _ _ HD4.out) (fun j hj => Below.heap_setCell _ _ _ _ hj) (by simp) ⟨(grown_set w4 _ _ _).os, (grown_set w4 _ _ _).tape, (grown_set w4 _ _ _).output⟩⟩
          have h1 : w1.heap.size ≤ q.block := own_ge HO3.out q.block (by subst hq; rfl)
          have h2 := own_lt HO3.out q.block (by subst hq; rfl)
          exact ⟨by omega, by simp; omega⟩
        case measure => simp [intOf]; omega
    · go_wp2
      go_ret
      have hkl : k = ys.length := by omega
      have HM2 := HM.out
      rw [hkl, List.take_length, ← HCS.out] at HM2
      exact ⟨_, _, rfl, HM2, HB.out⟩
theorem all_any (H : MMach W base d hdM S fp) (hlen : S.cs.length ≤ 1000000) : Calls Try.prog 45 #[.pointer (some ⟨d, 0, none⟩)] W (AllTell W S.cs) := by
  obtain ⟨v, ys, h⟩ := H; exact all_walk h hlen
end Go.Proofs.Ythmockfeffikjaa
