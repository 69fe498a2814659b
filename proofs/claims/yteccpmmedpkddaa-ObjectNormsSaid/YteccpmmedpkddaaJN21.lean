/-
  The document's Check: its walk.
-/
import Derived.Test.YteccpmmedpkddaaJN20
import Derived.Deep.RegionWith
import Derived.BigRegion
namespace Go.Proofs.Yteccpmmedpkddaa
open Go.RowKit

theorem named_eq (s x : ByteArray) : named s x = decide (s = x) := by
  unfold named
  by_cases h : s = x
  · subst h; rw [strEq rfl, decide_eq_true rfl]
  · rw [strNe (fun e => h e.symm), decide_eq_false h]
theorem idx_fresh (l : List ByteArray) (k : Nat) (hk : k < l.length) (h : inT l k l[k] = false) : idxP l l[k] = some k := by
  refine idxP_some hk (by rw [named_eq]; simp) (fun j hj hjk => ?_)
  rw [named_eq]
  unfold inT at h
  rw [List.any_eq_false] at h
  have := h l[j] (by rw [List.mem_take_iff_getElem]; exact ⟨j, by omega, rfl⟩)
  simpa using this
theorem idx_stale (l : List ByteArray) (k : Nat) (hk : k < l.length) (h : inT l k l[k] = true) : ∃ j, idxP l l[k] = some j ∧ j ≠ k ∧ j < l.length := by
  unfold inT at h
  rw [List.any_eq_true] at h
  obtain ⟨x, hx, he⟩ := h
  rw [List.mem_take_iff_getElem] at hx
  obtain ⟨i, hi, rfl⟩ := hx
  have hil : i < l.length := by omega
  cases hq : idxP l l[k] with
  | none =>
    unfold idxP at hq
    rw [List.findIdx?_eq_none_iff] at hq
    have := hq l[k] (List.getElem_mem _)
    rw [named_eq] at this
    simp at this
  | some j =>
    refine ⟨j, rfl, ?_, ?_⟩
    · rintro rfl
      unfold idxP at hq
      rw [List.findIdx?_eq_some_iff_getElem] at hq
      obtain ⟨_, _, h3⟩ := hq
      have := h3 i (by omega)
      rw [named_eq] at this
      simp at this he
      exact this he
    · unfold idxP at hq
      rw [List.findIdx?_eq_some_iff_getElem] at hq
      exact hq.1
def aheadAt (l : List Sy) (k : Nat) : Bool := k == 0 || (match l[k - 1]?, l[k]? with | some a, some b => aheadP a b | _, _ => true)
theorem aheadAt_eq (l : List Sy) (k j : Nat) (hj : j = k - 1) (h0 : 0 < k) (hk : k < l.length) (hjl : j < l.length) : aheadAt l k = aheadP l[j] l[k] := by
  subst hj
  have : (k == 0) = false := by simp; omega
  unfold aheadAt; rw [this, List.getElem?_eq_getElem hk, List.getElem?_eq_getElem hjl]; rfl
def symAtR (o : Ob) (k : Nat) : Bool := symAt o k && aheadAt o.syms k
def okR (o : Ob) : Bool := fewO o && allTo (secAt o) o.secs.length && allTo (symAtR o) o.syms.length
def ckR (o : Ob) : Int := if okR o then 0 else 140

set_option maxRecDepth 20000 in
set_option maxHeartbeats 16000000 in
theorem rcheck_any (o : Ob) (w : World) (ho : o.ok w) :
    Calls Try.prog 15 #[.agg o.cells.toArray] w fun e w' => e = .returned (.int .i64 (ckR o)) ∧ Below w.heap.size w w' := by
  have hrow := ho.secs
  have hcap := ho.scap
  have heach := ho.each
  have hrowy := ho.syms
  have hcapy := ho.ycap
  have hnames := ho.names
  have HSECT := hid (fun s w1 (hb : Below w.heap.size w w1) => rsect_any o s w1 (ho.below hb))
  have HFIND := hid (fun s w1 (hb : Below w.heap.size w w1) => rfind_any o s w1 (ho.below hb))
  have HNO : Hid (okR o = false → ckR o = 140) := fun h => by simp [ckR, h]
  have HYES : Hid (okR o = true → ckR o = 0) := fun h => by simp [ckR, h]
  have HD : Hid (okR o = (fewO o && allTo (secAt o) o.secs.length && allTo (symAtR o) o.syms.length)) := rfl
  have HA := hid (fun k (h : k < o.secs.length) => (show secAt o k = (secP o.secs[k] o.syms.length && freshAt (o.secs.map Sc.name) k) by simp only [secAt, List.getElem?_eq_getElem h]))
  have HY := hid (fun k (h : k < o.syms.length) => (show symAtR o k = (symP o.syms[k] o.secs && freshAt (o.syms.map Sy.name) k && aheadAt o.syms k) by simp only [symAtR, symAt, List.getElem?_eq_getElem h]))
  have HFEW : Hid (fewO o = (decide (o.secs.length ≤ 64) && decide (o.syms.length ≤ 4096))) := rfl
  generalize ckR o = CK at HNO HYES
  generalize okR o = OK at HNO HYES HD
  generalize fewO o = FEW at HD HFEW
  obtain ⟨SA, hSA⟩ : ∃ f, f = secAt o := ⟨_, rfl⟩
  obtain ⟨YA, hYA⟩ : ∃ f, f = symAtR o := ⟨_, rfl⟩
  rw [← hSA] at HD HA
  rw [← hYA] at HD HY
  clear hSA hYA ho
  obtain ⟨secs, sp, sc, syms, yp, yc⟩ := o
  unfold Ob.cells at HSECT HFIND
  dsimp only at hrow hcap heach hrowy hcapy hnames HD HA HY HFEW HSECT HFIND ⊢
  obtain ⟨hc1, hc2, _⟩ := hcap
  obtain ⟨hy1, hy2, _⟩ := hcapy
  show Calls Try.prog 15 #[.agg #[.slice sp secs.length sc, .slice yp syms.length yc]] w _
  have hbx : Below w.heap.size w (w.alloc (.cells #[.slice sp secs.length sc, .slice yp syms.length yc] 25)) := (Below.refl _ _).alloc (Nat.le_refl _) _
  by_cases h1 : secs.length ≤ 64
  case neg =>
    have h1' : 64 < secs.length := by omega
    have H1 := hid (decide_eq_false h1)
    go_enter Try.func15, Try.ntmps15
    go_wp2
    go_ret
    exact ⟨ret_int (HNO.out (by rw [HD.out, HFEW.out, H1.out]; simp)).symm, hbx⟩
  by_cases h2 : syms.length ≤ 4096
  case neg =>
    have h2' : 4096 < syms.length := by omega
    have H2 := hid (decide_eq_false h2)
    go_enter Try.func15, Try.ntmps15
    go_wp2
    go_ret
    exact ⟨ret_int (HNO.out (by rw [HD.out, HFEW.out, H2.out]; simp)).symm, hbx⟩
  have HF : Hid (FEW = true) := by rw [Hid, HFEW.out, decide_eq_true h1, decide_eq_true h2]; rfl
  go_enter Try.func15, Try.ntmps15
  go_wp2
  have hbox0 : (w.alloc (.cells #[.slice sp secs.length sc, .slice yp syms.length yc] 25)).heap[w.heap.size]? = some (.cells #[.slice sp secs.length sc, .slice yp syms.length yc] 25 (0, 0)) := heap_alloc_new w _
  have HB0 := hid hbox0
  clear hbox0
  go_loopw [3] (fun i wr => ∃ k : Nat, k ≤ secs.length ∧ i = .int .i64 k ∧ (∀ j, j < k → SA j = true) ∧ Below w.heap.size w wr ∧ wr.heap[w.heap.size]? = some (.cells #[.slice sp secs.length sc, .slice yp syms.length yc] 25 (0, 0))) (fun i _ => secs.length - (intOf i).toNat)
  case atStart => exact ⟨0, Nat.zero_le _, rfl, fun j hj => by omega, hbx, HB0.out⟩
  case round =>
    clear HB0
    obtain ⟨k, hk, rfl, hok, hb, hblk⟩ := hrel
    have HOK := hid hok
    clear hok
    have hsz := hb.size
    have hall : ∀ w', Below wr.heap.size wr w' → w'.heap[w.heap.size]? = _ := fun w' hw => (hw.block _ (Array.getElem?_eq_some_iff.1 hblk).1).trans hblk
    have HALL := hid hall
    have dl := (Array.getElem?_eq_some_iff.1 hblk).1
    by_cases hlt : k < secs.length
    · have hs := heach secs[k] (List.getElem_mem _)
      have HSEC := hid (fun w1 (hbb : Below wr.heap.size wr w1) => rsection_any secs[k] syms.length w1 (hs.below (below_more hbb hb (Nat.le_refl _))) (by omega))
      have HAK : Hid (SA k = (secP secs[k] syms.length && !inT (secs.map Sc.name) k (secs[k]).name)) := by
        rw [Hid, HA.out k hlt, freshAt_eq _ _ (by simpa using hlt)]; simp
      have HIX : Hid (∀ w1 (hbb : Below wr.heap.size wr w1), _) := fun w1 hbb => HSECT.out (secs[k]).name w1 (below_more hbb hb (Nat.le_refl _))
      have HFR : Hid (inT (secs.map Sc.name) k (secs[k]).name = false → idxP (secs.map Sc.name) (secs[k]).name = some k) := fun h => by
        have := idx_fresh (secs.map Sc.name) k (by simpa using hlt); simp only [List.getElem_map] at this; exact this h
      have HST : Hid (inT (secs.map Sc.name) k (secs[k]).name = true → ∃ j, idxP (secs.map Sc.name) (secs[k]).name = some j ∧ j ≠ k ∧ j < secs.length) := fun h => by
        have := idx_stale (secs.map Sc.name) k (by simpa using hlt); simp only [List.getElem_map, List.length_map] at this; exact this h
      obtain ⟨b, off, rfl, hbs, hzz⟩ := hrow.at (by have := flat_len Sc.cells 6 (fun _ => rfl) secs; omega)
      clear hzz
      have g0 : ∀ w', Below wr.heap.size wr w' → _ := fun w' hw => cell_of_row w' _ 0 _ _ _ (hall w' hw)
      have g1 : ∀ w', Below wr.heap.size wr w' → _ := fun w' hw => cell_of_row w' _ 1 _ _ _ (hall w' hw)
      have a0 : ∀ w', Below wr.heap.size wr w' → _ := fun w' hw => (sc_cells (hrow.below (below_more hw hb (Nat.le_refl _))) k hlt).1
      have a1 : ∀ w', Below wr.heap.size wr w' → _ := fun w' hw => (sc_cells (hrow.below (below_more hw hb (Nat.le_refl _))) k hlt).2.1
      have a2 : ∀ w', Below wr.heap.size wr w' → _ := fun w' hw => (sc_cells (hrow.below (below_more hw hb (Nat.le_refl _))) k hlt).2.2.1
      have a3 : ∀ w', Below wr.heap.size wr w' → _ := fun w' hw => (sc_cells (hrow.below (below_more hw hb (Nat.le_refl _))) k hlt).2.2.2.1
      have a4 : ∀ w', Below wr.heap.size wr w' → _ := fun w' hw => (sc_cells (hrow.below (below_more hw hb (Nat.le_refl _))) k hlt).2.2.2.2.1
      have a5 : ∀ w', Below wr.heap.size wr w' → _ := fun w' hw => (sc_cells (hrow.below (below_more hw hb (Nat.le_refl _))) k hlt).2.2.2.2.2
      have d0 := g0 _ (Below.refl _ _)
      simp only [List.getElem?_toArray, List.getElem?_cons_zero, List.getElem?_cons_succ] at g0 g1 d0
      generalize secs[k] = s at a0 a1 a2 a3 a4 a5 HSEC HAK HIX HFR HST
      clear hs hall hblk
      obtain ⟨nm, kd, al, sz, da, dp, dc, rl, rp, rc⟩ := s
      unfold Sc.cells at HSEC
      dsimp only at a0 a1 a2 a3 a4 a5 HSEC HAK HIX HFR HST
      generalize secP _ _ = sb at HSEC HAK
      generalize inT (secs.map Sc.name) k nm = tb at HAK HFR HST
      obtain ⟨r, hr⟩ : ∃ r, r = idxP (secs.map Sc.name) nm := ⟨_, rfl⟩
      rw [← hr] at HIX HFR HST
      clear hr
      cases tb with
      | true =>
        obtain ⟨j, rfl, hjk, hjl⟩ := HST.out rfl
        have HN2 : Hid (CK = 140) := HNO.out (by rw [HD.out, allTo_false hlt (by rw [HAK.out]; simp)]; simp)
        have hjk' : ((j : Int) != k) = true := by simp; omega
        unfold idxV at HIX
        dsimp only [Option.getD_some, Option.isSome_some] at HIX
        clear HFR HST HAK HSEC
        go_upto_region 6 with (fail)
        go_cut [4] (fun v wx => v = .int .i64 j ∧ Below wr.heap.size wr wx)
        case first =>
          go_region_held3 (fun w' => Below wr.heap.size wr w') (first | exact (Below.refl _ _).drew | assumption) (first | (go_at_call 19; with_reducible refine (HIX.out _ (by assumption)).mono ?_; rintro e w' ⟨rfl, hbq⟩; have hq2 : Below wr.heap.size wr w' := below_more hbq (by assumption) (Nat.le_refl _); clear hbq))
          all_goals (go_wp2_with fail; go_meet)
          all_goals exact ⟨rfl, by assumption⟩
        case rest =>
          obtain ⟨rfl, hbc⟩ := hcut
          go_wp2
          go_quiet (fail)
          go_wp2
          go_ret
          exact ⟨ret_int HN2.out.symm, below_drewN (below_more hbc hb (Nat.le_refl _)) _⟩
      | false =>
        have hr := HFR.out rfl
        subst hr
        unfold idxV at HIX
        dsimp only [Option.getD_some, Option.isSome_some] at HIX
        have hkk : ((k : Int) != k) = false := by simp
        clear HFR HST
        go_upto_region 6 with (fail)
        go_cut [4] (fun v wx => v = .int .i64 k ∧ Below wr.heap.size wr wx)
        case first =>
          go_region_held3 (fun w' => Below wr.heap.size wr w') (first | exact (Below.refl _ _).drew | assumption) (first | (go_at_call 19; with_reducible refine (HIX.out _ (by assumption)).mono ?_; rintro e w' ⟨rfl, hbq⟩; have hq2 : Below wr.heap.size wr w' := below_more hbq (by assumption) (Nat.le_refl _); clear hbq))
          all_goals (go_wp2_with fail; go_meet)
          all_goals exact ⟨rfl, by assumption⟩
        case rest =>
          obtain ⟨rfl, hbc⟩ := hcut
          go_upto_region 7 with (fail)
          cases sb with
          | false =>
            have HN2 : Hid (CK = 140) := HNO.out (by rw [HD.out, allTo_false hlt (by rw [HAK.out]; simp)]; simp)
            go_region_held3 (fun w' => Below wr.heap.size wr w') (first | exact (Below.drew hbc) | assumption) (first | (go_at_call 40; with_reducible refine (HSEC.out _ (by assumption)).mono ?_; rintro e w' ⟨rfl, hbq⟩; have hq2 : Below wr.heap.size wr w' := below_more hbq (by assumption) (Nat.le_refl _); clear hbq))
            all_goals (go_wp2; go_ret)
            all_goals exact ⟨ret_int HN2.out.symm, below_more (by assumption) hb (Nat.le_refl _)⟩
          | true =>
            have HSK : Hid (SA k = true) := by rw [Hid, HAK.out]; rfl
            go_region_held3 (fun w' => Below wr.heap.size wr w') (first | exact (Below.drew hbc) | assumption) (first | (go_at_call 40; with_reducible refine (HSEC.out _ (by assumption)).mono ?_; rintro e w' ⟨rfl, hbq⟩; have hq2 : Below wr.heap.size wr w' := below_more hbq (by assumption) (Nat.le_refl _); clear hbq))
            all_goals (go_wp2; go_roundw)
            case rel => exact ⟨k + 1, by omega, by go_num, fun j hj => by
              by_cases e : j = k
              · subst e; exact HSK.out
              · exact HOK.out j (by omega), below_more (by assumption) hb (Nat.le_refl _), HALL.out _ (by assumption)⟩
            case measure => simp [intOf]; omega
    · obtain rfl : k = secs.length := by omega
      have HSA : Hid (allTo SA secs.length = true) := allTo_true HOK.out
      have HBK := hid hblk
      have hb0 := hb
      clear HOK HA heach hall HALL hblk dl HSECT
      have d0 := cell_of_row wr w.heap.size 0 _ _ _ HBK.out
      have d1 := cell_of_row wr w.heap.size 1 _ _ _ HBK.out
      simp only [List.getElem?_toArray, List.getElem?_cons_zero, List.getElem?_cons_succ] at d0 d1
      go_wp2
      obtain ⟨wo, rfl⟩ : ∃ wo : World, wo = wr := ⟨_, rfl⟩
      clear d0 d1
      go_loopw [6] (fun i wr => ∃ k : Nat, k ≤ syms.length ∧ i = .int .i64 k ∧ (∀ j, j < k → YA j = true) ∧ Below w.heap.size w wr ∧ wr.heap[w.heap.size]? = some (.cells #[.slice sp secs.length sc, .slice yp syms.length yc] 25 (0, 0))) (fun i _ => syms.length - (intOf i).toNat)
      case atStart => exact ⟨0, Nat.zero_le _, rfl, fun j hj => by omega, hb0, HBK.out⟩
      case round =>
        clear HBK hb0 hb hsz
        obtain ⟨k, hk, rfl, hok, hb, hblk⟩ := hrel
        have HOK := hid hok
        clear hok
        have hsz := hb.size
        have hall : ∀ w', Below wr.heap.size wr w' → w'.heap[w.heap.size]? = _ := fun w' hw => (hw.block _ (Array.getElem?_eq_some_iff.1 hblk).1).trans hblk
        have HALL := hid hall
        have dl := (Array.getElem?_eq_some_iff.1 hblk).1
        by_cases hlt : k < syms.length
        · have hs := hnames syms[k] (List.getElem_mem _)
          have HSEC := hid (fun w1 (hbb : Below wr.heap.size wr w1) => rsymbol_any syms[k] sp sc secs w1 hs (hrow.below (below_more hbb hb (Nat.le_refl _))) (by omega))
          have HAK : Hid (YA k = (symP syms[k] secs && !inT (syms.map Sy.name) k (syms[k]).name && aheadAt syms k)) := by
            rw [Hid, HY.out k hlt, freshAt_eq _ _ (by simpa using hlt)]; simp
          have HIX : Hid (∀ w1 (hbb : Below wr.heap.size wr w1), _) := fun w1 hbb => HFIND.out (syms[k]).name w1 (below_more hbb hb (Nat.le_refl _))
          have HFR : Hid (inT (syms.map Sy.name) k (syms[k]).name = false → idxP (syms.map Sy.name) (syms[k]).name = some k) := fun h => by
            have := idx_fresh (syms.map Sy.name) k (by simpa using hlt); simp only [List.getElem_map] at this; exact this h
          have HST : Hid (inT (syms.map Sy.name) k (syms[k]).name = true → ∃ j, idxP (syms.map Sy.name) (syms[k]).name = some j ∧ j ≠ k ∧ j < syms.length) := fun h => by
            have := idx_stale (syms.map Sy.name) k (by simpa using hlt); simp only [List.getElem_map, List.length_map] at this; exact this h
          obtain ⟨b, off, rfl, hbs, hzz⟩ := hrowy.at (by have := flat_len Sy.cells 4 (fun _ => rfl) syms; omega)
          clear hzz
          have g0 : ∀ w', Below wr.heap.size wr w' → _ := fun w' hw => cell_of_row w' _ 0 _ _ _ (hall w' hw)
          have g1 : ∀ w', Below wr.heap.size wr w' → _ := fun w' hw => cell_of_row w' _ 1 _ _ _ (hall w' hw)
          have a0 : ∀ w', Below wr.heap.size wr w' → _ := fun w' hw => (sy_cells (hrowy.below (below_more hw hb (Nat.le_refl _))) k hlt).1
          have a1 : ∀ w', Below wr.heap.size wr w' → _ := fun w' hw => (sy_cells (hrowy.below (below_more hw hb (Nat.le_refl _))) k hlt).2.1
          have a2 : ∀ w', Below wr.heap.size wr w' → _ := fun w' hw => (sy_cells (hrowy.below (below_more hw hb (Nat.le_refl _))) k hlt).2.2.1
          have a3 : ∀ w', Below wr.heap.size wr w' → _ := fun w' hw => (sy_cells (hrowy.below (below_more hw hb (Nat.le_refl _))) k hlt).2.2.2
          have d0 := g1 _ (Below.refl _ _)
          simp only [List.getElem?_toArray, List.getElem?_cons_zero, List.getElem?_cons_succ] at g0 g1 d0
          have HPREV : Hid (0 < k → ∃ j, j + 1 = k ∧ ∃ h : j < syms.length, aheadAt syms k = aheadP syms[j] syms[k]) := fun h0 => ⟨k - 1, by omega, by omega, aheadAt_eq syms k (k - 1) rfl h0 hlt (by omega)⟩
          have HZ : Hid (k = 0 → aheadAt syms k = true) := fun h0 => by subst h0; rfl
          obtain ⟨s, hs0⟩ : ∃ s, s = syms[k] := ⟨_, rfl⟩
          rw [← hs0] at a0 a1 a2 a3 HSEC HAK HIX HFR HST HPREV
          clear hs hall hblk hs0
          obtain ⟨nm, kd, al, sz⟩ := s
          unfold Sy.cells at HSEC
          dsimp only at a0 a1 a2 a3 HSEC HAK HIX HFR HST
          generalize symP _ _ = sb at HSEC HAK
          generalize inT (syms.map Sy.name) k nm = tb at HAK HFR HST
          obtain ⟨r, hr⟩ : ∃ r, r = idxP (syms.map Sy.name) nm := ⟨_, rfl⟩
          rw [← hr] at HIX HFR HST
          clear hr
          cases tb with
          | true =>
            obtain ⟨j, rfl, hjk, hjl⟩ := HST.out rfl
            have HN2 : Hid (CK = 140) := HNO.out (by rw [HD.out, HSA.out, allTo_false hlt (by rw [HAK.out]; simp)]; simp)
            have hjk' : ((j : Int) != k) = true := by simp; omega
            unfold idxV at HIX
            dsimp only [Option.getD_some, Option.isSome_some] at HIX
            clear HFR HST HAK HSEC HPREV
            go_upto_region 12 with (fail)
            go_cut [7] (fun v wx => v = .int .i64 j ∧ Below wr.heap.size wr wx)
            case first =>
              go_region_held3 (fun w' => Below wr.heap.size wr w') (first | exact (Below.refl _ _).drew | assumption) (first | (go_at_call 18; with_reducible refine (HIX.out _ (by assumption)).mono ?_; rintro e w' ⟨rfl, hbq⟩; have hq2 : Below wr.heap.size wr w' := below_more hbq (by assumption) (Nat.le_refl _); clear hbq))
              all_goals (go_wp2_with fail; go_meet)
              all_goals exact ⟨rfl, by assumption⟩
            case rest =>
              obtain ⟨rfl, hbc⟩ := hcut
              go_wp2
              go_quiet (fail)
              go_wp2
              go_ret
              exact ⟨ret_int HN2.out.symm, below_drewN (below_more hbc hb (Nat.le_refl _)) _⟩
          | false =>
            have hr := HFR.out rfl
            subst hr
            unfold idxV at HIX
            dsimp only [Option.getD_some, Option.isSome_some] at HIX
            have hkk : ((k : Int) != k) = false := by simp
            clear HFR HST
            go_upto_region 12 with (fail)
            go_cut [7] (fun v wx => v = .int .i64 k ∧ Below wr.heap.size wr wx)
            case first =>
              go_region_held3 (fun w' => Below wr.heap.size wr w') (first | exact (Below.refl _ _).drew | assumption) (first | (go_at_call 18; with_reducible refine (HIX.out _ (by assumption)).mono ?_; rintro e w' ⟨rfl, hbq⟩; have hq2 : Below wr.heap.size wr w' := below_more hbq (by assumption) (Nat.le_refl _); clear hbq))
              all_goals (go_wp2_with fail; go_meet)
              all_goals exact ⟨rfl, by assumption⟩
            case rest =>
              obtain ⟨rfl, hbc⟩ := hcut
              go_upto_region 13 with (fail)
              cases sb with
              | false =>
                have HN2 : Hid (CK = 140) := HNO.out (by rw [HD.out, HSA.out, allTo_false hlt (by rw [HAK.out]; simp)]; simp)
                go_cut [102] (fun v wx => v = .bool true ∧ Below wr.heap.size wr wx)
                case first =>
                  refine wp_region_held_drew (S := fun w' => Below wr.heap.size wr w') (by kernel_rfl) (Below.drew hbc) (fun hHeld => ?_)
                  refine wpAnyH_take (i := 0) (oi := { dst := some 70, op := Op.move (Operand.tmp 7), type := 3, pos := "ref.go:125", after := #[], guard := none }) (v := ?av0) rfl (by kernel_rfl) (by kernel_rfl) (by kernel_rfl) (fun _ _ _ h => h) (Or.inl ⟨by rfl, ?ah0⟩) (by assumption) ?ar0
                  case ah0 => ((intro w hSw; (try dsimp only at hSw); go_simp); try with_reducible rfl)
                  try simp only [Act.put, List.setIfInBounds_toArray, List.set_cons_zero, List.set_cons_succ]
                  refine wpAnyH_take (i := 1) (oi := { dst := some 71, op := Op.move (Operand.tmp 6), type := 3, pos := "ref.go:125", after := #[], guard := none }) (v := ?av1) rfl (by kernel_rfl) (by kernel_rfl) (by kernel_rfl) (fun _ _ _ h => h) (Or.inl ⟨by rfl, ?ah1⟩) (by assumption) ?ar1
                  case ah1 => ((intro w hSw; (try dsimp only at hSw); go_simp); try with_reducible rfl)
                  try simp only [Act.put, List.setIfInBounds_toArray, List.set_cons_zero, List.set_cons_succ]
                  refine wpAnyH_take (i := 2) (oi := { dst := some 72, op := Op.binOp BinOp.neq 3 (Operand.tmp 70) (Operand.tmp 71) 3, type := 4, pos := "ref.go:125", after := #[{ on := 0, ground := Ground.data }, { on := 1, ground := Ground.data }], guard := none }) (v := ?av2) rfl (by kernel_rfl) (by kernel_rfl) (by kernel_rfl) (fun _ _ _ h => h) (Or.inl ⟨by rfl, ?ah2⟩) (by assumption) ?ar2
                  case ah2 => ((intro w hSw; (try dsimp only at hSw); go_simp); try with_reducible rfl)
                  try simp only [Act.put, List.setIfInBounds_toArray, List.set_cons_zero, List.set_cons_succ]
                  refine wpAnyH_take (i := 3) (oi := { dst := some 73, op := Op.move (Operand.tmp 72), type := 4, pos := "ref.go:125", after := #[{ on := 2, ground := Ground.data }], guard := none }) (v := ?av3) rfl (by kernel_rfl) (by kernel_rfl) (by kernel_rfl) (fun _ _ _ h => h) (Or.inl ⟨by rfl, ?ah3⟩) (by assumption) ?ar3
                  case ah3 => ((intro w hSw; (try dsimp only at hSw); go_simp); try with_reducible rfl)
                  try simp only [Act.put, List.setIfInBounds_toArray, List.set_cons_zero, List.set_cons_succ]
                  refine wpAnyH_take (i := 4) (oi := { dst := some 74, op := Op.fieldAddr 25 (Operand.tmp 1) 1, type := 0, pos := "ref.go:125", after := #[{ on := 3, ground := Ground.guard }], guard := some (3, false) }) (v := ?av4) rfl (by kernel_rfl) (by kernel_rfl) (by kernel_rfl) (fun _ _ _ h => h) (Or.inl ⟨by rfl, ?ah4⟩) (by assumption) ?ar4
                  case ah4 => ((intro w hSw; (try dsimp only at hSw); go_simp); try with_reducible rfl)
                  try simp only [Act.put, List.setIfInBounds_toArray, List.set_cons_zero, List.set_cons_succ]
                  refine wpAnyH_take (i := 5) (oi := { dst := some 75, op := Op.load 23 (Operand.tmp 74), type := 23, pos := "ref.go:125", after := #[{ on := 4, ground := Ground.data }, { on := 3, ground := Ground.guard }], guard := some (3, false) }) (v := ?av5) rfl (by kernel_rfl) (by kernel_rfl) (by kernel_rfl) (fun _ _ _ h => h) (Or.inl ⟨by rfl, ?ah5⟩) (by assumption) ?ar5
                  case ah5 => ((intro w hSw; (try dsimp only at hSw); go_simp); try with_reducible rfl)
                  try simp only [Act.put, List.setIfInBounds_toArray, List.set_cons_zero, List.set_cons_succ]
                  refine wpAnyH_take (i := 6) (oi := { dst := some 76, op := Op.move (Operand.tmp 6), type := 3, pos := "ref.go:125", after := #[{ on := 3, ground := Ground.guard }], guard := some (3, false) }) (v := ?av6) rfl (by kernel_rfl) (by kernel_rfl) (by kernel_rfl) (fun _ _ _ h => h) (Or.inl ⟨by rfl, ?ah6⟩) (by assumption) ?ar6
                  case ah6 => ((intro w hSw; (try dsimp only at hSw); go_simp); try with_reducible rfl)
                  try simp only [Act.put, List.setIfInBounds_toArray, List.set_cons_zero, List.set_cons_succ]
                  refine wpAnyH_take (i := 7) (oi := { dst := some 77, op := Op.indexAddr 23 (Operand.tmp 75) (Operand.tmp 76), type := 0, pos := "ref.go:125", after := #[{ on := 5, ground := Ground.data }, { on := 6, ground := Ground.data }, { on := 3, ground := Ground.guard }], guard := some (3, false) }) (v := ?av7) rfl (by kernel_rfl) (by kernel_rfl) (by kernel_rfl) (fun _ _ _ h => h) (Or.inl ⟨by rfl, ?ah7⟩) (by assumption) ?ar7
                  case ah7 => ((intro w hSw; (try dsimp only at hSw); go_simp); try with_reducible rfl)
                  try simp only [Act.put, List.setIfInBounds_toArray, List.set_cons_zero, List.set_cons_succ]
                  refine wpAnyH_take (i := 8) (oi := { dst := some 78, op := Op.load 36 (Operand.tmp 77), type := 36, pos := "ref.go:125", after := #[{ on := 7, ground := Ground.data }, { on := 3, ground := Ground.guard }], guard := some (3, false) }) (v := ?av8) rfl (by kernel_rfl) (by kernel_rfl) (by kernel_rfl) (fun _ _ _ h => h) (Or.inl ⟨by rfl, ?ah8⟩) (by assumption) ?ar8
                  case ah8 => ((intro w hSw; (try dsimp only at hSw); go_simp); try with_reducible rfl)
                  try simp only [Act.put, List.setIfInBounds_toArray, List.set_cons_zero, List.set_cons_succ]
                  refine wpAnyH_take (i := 9) (oi := { dst := some 79, op := Op.fieldAddr 25 (Operand.tmp 1) 0, type := 0, pos := "ref.go:125", after := #[{ on := 3, ground := Ground.guard }], guard := some (3, false) }) (v := ?av9) rfl (by kernel_rfl) (by kernel_rfl) (by kernel_rfl) (fun _ _ _ h => h) (Or.inl ⟨by rfl, ?ah9⟩) (by assumption) ?ar9
                  case ah9 => ((intro w hSw; (try dsimp only at hSw); go_simp); try with_reducible rfl)
                  try simp only [Act.put, List.setIfInBounds_toArray, List.set_cons_zero, List.set_cons_succ]
                  refine wpAnyH_take (i := 10) (oi := { dst := some 80, op := Op.load 22 (Operand.tmp 79), type := 22, pos := "ref.go:125", after := #[{ on := 9, ground := Ground.data }, { on := 3, ground := Ground.guard }], guard := some (3, false) }) (v := ?av10) rfl (by kernel_rfl) (by kernel_rfl) (by kernel_rfl) (fun _ _ _ h => h) (Or.inl ⟨by rfl, ?ah10⟩) (by assumption) ?ar10
                  case ah10 => ((intro w hSw; (try dsimp only at hSw); go_simp); try with_reducible rfl)
                  try simp only [Act.put, List.setIfInBounds_toArray, List.set_cons_zero, List.set_cons_succ]
                  refine wpAnyH_ready (rs := [11]) (by kernel_rfl) (by simp) ?_
                  refine AllReadyH.cons (o := { dst := some 81, op := Op.call { callee := Callee.value (Operand.func 41), args := #[Operand.tmp 78, Operand.tmp 80], argTypes := #[36, 22] }, type := 4, pos := "ref.go:125", after := #[{ on := 8, ground := Ground.data }, { on := 10, ground := Ground.data }, { on := 3, ground := Ground.chain }, { on := 3, ground := Ground.guard }], guard := some (3, false) }) rfl (fun K hK => ?_) AllReadyH.nil
                  go_simp
                  (go_at_call 41; refine (HSEC.out _ (by assumption)).mono ?_; rintro e w1 ⟨rfl, hb1⟩; have hq2 : Below wr.heap.size wr w1 := below_more hb1 (by assumption) (Nat.le_refl _); clear hb1)
                  refine hK.out _ _ (by assumption) (fun hHeld => ?_)
                  clear hK K
                  try simp only [Act.put, List.setIfInBounds_toArray, List.set_cons_zero, List.set_cons_succ]
                  refine wpAnyH_take (i := 12) (oi := { dst := some 82, op := Op.unOp UnOp.not 4 (Operand.tmp 81), type := 4, pos := "ref.go:125", after := #[{ on := 11, ground := Ground.data }, { on := 3, ground := Ground.guard }], guard := some (3, false) }) (v := ?av12) rfl (by kernel_rfl) (by kernel_rfl) (by kernel_rfl) (fun _ _ _ h => h) (Or.inl ⟨by rfl, ?ah12⟩) (by assumption) ?ar12
                  case ah12 => ((intro w hSw; (try dsimp only at hSw); go_simp); try with_reducible rfl)
                  try simp only [Act.put, List.setIfInBounds_toArray, List.set_cons_zero, List.set_cons_succ]
                  refine wpAnyH_take (i := 13) (oi := { dst := some 83, op := Op.pick (Operand.tmp 73) (Operand.const (Value.bool true)) (Operand.tmp 82), type := 4, pos := "ref.go:125", after := #[{ on := 3, ground := Ground.data }, { on := 12, ground := Ground.data }], guard := none }) (v := ?av13) rfl (by kernel_rfl) (by kernel_rfl) (by kernel_rfl) (fun _ _ _ h => h) (Or.inl ⟨by rfl, ?ah13⟩) (by assumption) ?ar13
                  case ah13 => ((intro w hSw; (try dsimp only at hSw); go_simp); try with_reducible rfl)
                  try simp only [Act.put, List.setIfInBounds_toArray, List.set_cons_zero, List.set_cons_succ]
                  refine wpAnyH_take (i := 14) (oi := { dst := some 84, op := Op.move (Operand.tmp 83), type := 4, pos := "ref.go:125", after := #[{ on := 13, ground := Ground.data }, { on := 11, ground := Ground.chain }], guard := none }) (v := ?av14) rfl (by kernel_rfl) (by kernel_rfl) (by kernel_rfl) (fun _ _ _ h => h) (Or.inl ⟨by rfl, ?ah14⟩) (by assumption) ?ar14
                  case ah14 => ((intro w hSw; (try dsimp only at hSw); go_simp); try with_reducible rfl)
                  try simp only [Act.put, List.setIfInBounds_toArray, List.set_cons_zero, List.set_cons_succ]
                  refine wpAnyH_take (i := 15) (oi := { dst := some 85, op := Op.move (Operand.tmp 6), type := 3, pos := "ref.go:125", after := #[{ on := 14, ground := Ground.guard }], guard := some (14, false) }) (v := undef) rfl (by kernel_rfl) (by kernel_rfl) (by kernel_rfl) (fun _ _ _ h => h) (Or.inr ⟨by rfl, rfl⟩) (by assumption) ?_
                  try simp only [Act.put, List.setIfInBounds_toArray, List.set_cons_zero, List.set_cons_succ]
                  refine wpAnyH_take (i := 16) (oi := { dst := some 86, op := Op.binOp BinOp.gtr 3 (Operand.tmp 85) (Operand.const (Value.int IntKind.i64 0)) 3, type := 4, pos := "ref.go:125", after := #[{ on := 15, ground := Ground.data }, { on := 14, ground := Ground.guard }], guard := some (14, false) }) (v := undef) rfl (by kernel_rfl) (by kernel_rfl) (by kernel_rfl) (fun _ _ _ h => h) (Or.inr ⟨by rfl, rfl⟩) (by assumption) ?_
                  try simp only [Act.put, List.setIfInBounds_toArray, List.set_cons_zero, List.set_cons_succ]
                  refine wpAnyH_take (i := 17) (oi := { dst := some 87, op := Op.move (Operand.tmp 86), type := 4, pos := "ref.go:125", after := #[{ on := 16, ground := Ground.data }, { on := 14, ground := Ground.chain }, { on := 14, ground := Ground.guard }], guard := some (14, false) }) (v := undef) rfl (by kernel_rfl) (by kernel_rfl) (by kernel_rfl) (fun _ _ _ h => h) (Or.inr ⟨by rfl, rfl⟩) (by assumption) ?_
                  try simp only [Act.put, List.setIfInBounds_toArray, List.set_cons_zero, List.set_cons_succ]
                  refine wpAnyH_take (i := 18) (oi := { dst := some 88, op := Op.fieldAddr 25 (Operand.tmp 1) 1, type := 0, pos := "ref.go:125", after := #[{ on := 17, ground := Ground.guard }], guard := some (17, true) }) (v := undef) rfl (by kernel_rfl) (by kernel_rfl) (by kernel_rfl) (fun _ _ _ h => h) (Or.inr ⟨by rfl, rfl⟩) (by assumption) ?_
                  try simp only [Act.put, List.setIfInBounds_toArray, List.set_cons_zero, List.set_cons_succ]
                  refine wpAnyH_take (i := 19) (oi := { dst := some 89, op := Op.load 23 (Operand.tmp 88), type := 23, pos := "ref.go:125", after := #[{ on := 18, ground := Ground.data }, { on := 17, ground := Ground.guard }], guard := some (17, true) }) (v := undef) rfl (by kernel_rfl) (by kernel_rfl) (by kernel_rfl) (fun _ _ _ h => h) (Or.inr ⟨by rfl, rfl⟩) (by assumption) ?_
                  try simp only [Act.put, List.setIfInBounds_toArray, List.set_cons_zero, List.set_cons_succ]
                  refine wpAnyH_take (i := 20) (oi := { dst := some 90, op := Op.move (Operand.tmp 6), type := 3, pos := "ref.go:125", after := #[{ on := 17, ground := Ground.guard }], guard := some (17, true) }) (v := undef) rfl (by kernel_rfl) (by kernel_rfl) (by kernel_rfl) (fun _ _ _ h => h) (Or.inr ⟨by rfl, rfl⟩) (by assumption) ?_
                  try simp only [Act.put, List.setIfInBounds_toArray, List.set_cons_zero, List.set_cons_succ]
                  refine wpAnyH_take (i := 21) (oi := { dst := some 91, op := Op.binOp BinOp.sub 3 (Operand.tmp 90) (Operand.const (Value.int IntKind.i64 1)) 3, type := 3, pos := "ref.go:125", after := #[{ on := 20, ground := Ground.data }, { on := 17, ground := Ground.guard }], guard := some (17, true) }) (v := undef) rfl (by kernel_rfl) (by kernel_rfl) (by kernel_rfl) (fun _ _ _ h => h) (Or.inr ⟨by rfl, rfl⟩) (by assumption) ?_
                  try simp only [Act.put, List.setIfInBounds_toArray, List.set_cons_zero, List.set_cons_succ]
                  refine wpAnyH_take (i := 22) (oi := { dst := some 92, op := Op.indexAddr 23 (Operand.tmp 89) (Operand.tmp 91), type := 0, pos := "ref.go:125", after := #[{ on := 19, ground := Ground.data }, { on := 21, ground := Ground.data }, { on := 17, ground := Ground.guard }], guard := some (17, true) }) (v := undef) rfl (by kernel_rfl) (by kernel_rfl) (by kernel_rfl) (fun _ _ _ h => h) (Or.inr ⟨by rfl, rfl⟩) (by assumption) ?_
                  try simp only [Act.put, List.setIfInBounds_toArray, List.set_cons_zero, List.set_cons_succ]
                  refine wpAnyH_take (i := 23) (oi := { dst := some 93, op := Op.load 36 (Operand.tmp 92), type := 36, pos := "ref.go:125", after := #[{ on := 22, ground := Ground.data }, { on := 17, ground := Ground.guard }], guard := some (17, true) }) (v := undef) rfl (by kernel_rfl) (by kernel_rfl) (by kernel_rfl) (fun _ _ _ h => h) (Or.inr ⟨by rfl, rfl⟩) (by assumption) ?_
                  try simp only [Act.put, List.setIfInBounds_toArray, List.set_cons_zero, List.set_cons_succ]
                  refine wpAnyH_take (i := 24) (oi := { dst := some 94, op := Op.fieldAddr 25 (Operand.tmp 1) 1, type := 0, pos := "ref.go:125", after := #[{ on := 17, ground := Ground.guard }], guard := some (17, true) }) (v := undef) rfl (by kernel_rfl) (by kernel_rfl) (by kernel_rfl) (fun _ _ _ h => h) (Or.inr ⟨by rfl, rfl⟩) (by assumption) ?_
                  try simp only [Act.put, List.setIfInBounds_toArray, List.set_cons_zero, List.set_cons_succ]
                  refine wpAnyH_take (i := 25) (oi := { dst := some 95, op := Op.load 23 (Operand.tmp 94), type := 23, pos := "ref.go:125", after := #[{ on := 24, ground := Ground.data }, { on := 17, ground := Ground.guard }], guard := some (17, true) }) (v := undef) rfl (by kernel_rfl) (by kernel_rfl) (by kernel_rfl) (fun _ _ _ h => h) (Or.inr ⟨by rfl, rfl⟩) (by assumption) ?_
                  try simp only [Act.put, List.setIfInBounds_toArray, List.set_cons_zero, List.set_cons_succ]
                  refine wpAnyH_take (i := 26) (oi := { dst := some 96, op := Op.move (Operand.tmp 6), type := 3, pos := "ref.go:125", after := #[{ on := 17, ground := Ground.guard }], guard := some (17, true) }) (v := undef) rfl (by kernel_rfl) (by kernel_rfl) (by kernel_rfl) (fun _ _ _ h => h) (Or.inr ⟨by rfl, rfl⟩) (by assumption) ?_
                  try simp only [Act.put, List.setIfInBounds_toArray, List.set_cons_zero, List.set_cons_succ]
                  refine wpAnyH_take (i := 27) (oi := { dst := some 97, op := Op.indexAddr 23 (Operand.tmp 95) (Operand.tmp 96), type := 0, pos := "ref.go:125", after := #[{ on := 25, ground := Ground.data }, { on := 26, ground := Ground.data }, { on := 17, ground := Ground.guard }], guard := some (17, true) }) (v := undef) rfl (by kernel_rfl) (by kernel_rfl) (by kernel_rfl) (fun _ _ _ h => h) (Or.inr ⟨by rfl, rfl⟩) (by assumption) ?_
                  try simp only [Act.put, List.setIfInBounds_toArray, List.set_cons_zero, List.set_cons_succ]
                  refine wpAnyH_take (i := 28) (oi := { dst := some 98, op := Op.load 36 (Operand.tmp 97), type := 36, pos := "ref.go:125", after := #[{ on := 27, ground := Ground.data }, { on := 17, ground := Ground.guard }], guard := some (17, true) }) (v := undef) rfl (by kernel_rfl) (by kernel_rfl) (by kernel_rfl) (fun _ _ _ h => h) (Or.inr ⟨by rfl, rfl⟩) (by assumption) ?_
                  try simp only [Act.put, List.setIfInBounds_toArray, List.set_cons_zero, List.set_cons_succ]
                  refine wpAnyH_take (i := 29) (oi := { dst := some 99, op := Op.call { callee := Callee.value (Operand.func 42), args := #[Operand.tmp 93, Operand.tmp 98], argTypes := #[36, 36] }, type := 4, pos := "ref.go:125", after := #[{ on := 23, ground := Ground.data }, { on := 28, ground := Ground.data }, { on := 17, ground := Ground.chain }, { on := 17, ground := Ground.guard }], guard := some (17, true) }) (v := undef) rfl (by kernel_rfl) (by kernel_rfl) (by kernel_rfl) (fun _ _ _ h => h) (Or.inr ⟨by rfl, rfl⟩) (by assumption) ?_
                  try simp only [Act.put, List.setIfInBounds_toArray, List.set_cons_zero, List.set_cons_succ]
                  refine wpAnyH_take (i := 30) (oi := { dst := some 100, op := Op.unOp UnOp.not 4 (Operand.tmp 99), type := 4, pos := "ref.go:125", after := #[{ on := 29, ground := Ground.data }, { on := 17, ground := Ground.guard }], guard := some (17, true) }) (v := undef) rfl (by kernel_rfl) (by kernel_rfl) (by kernel_rfl) (fun _ _ _ h => h) (Or.inr ⟨by rfl, rfl⟩) (by assumption) ?_
                  try simp only [Act.put, List.setIfInBounds_toArray, List.set_cons_zero, List.set_cons_succ]
                  refine wpAnyH_take (i := 31) (oi := { dst := some 101, op := Op.pick (Operand.tmp 87) (Operand.tmp 100) (Operand.const (Value.bool false)), type := 4, pos := "ref.go:125", after := #[{ on := 17, ground := Ground.data }, { on := 30, ground := Ground.data }, { on := 14, ground := Ground.guard }], guard := some (14, false) }) (v := undef) rfl (by kernel_rfl) (by kernel_rfl) (by kernel_rfl) (fun _ _ _ h => h) (Or.inr ⟨by rfl, rfl⟩) (by assumption) ?_
                  try simp only [Act.put, List.setIfInBounds_toArray, List.set_cons_zero, List.set_cons_succ]
                  refine wpAnyH_take (i := 32) (oi := { dst := some 102, op := Op.pick (Operand.tmp 84) (Operand.const (Value.bool true)) (Operand.tmp 101), type := 4, pos := "ref.go:125", after := #[{ on := 14, ground := Ground.data }, { on := 31, ground := Ground.data }], guard := none }) (v := ?av32) rfl (by kernel_rfl) (by kernel_rfl) (by kernel_rfl) (fun _ _ _ h => h) (Or.inl ⟨by rfl, ?ah32⟩) (by assumption) ?ar32
                  case ah32 => ((intro w hSw; (try dsimp only at hSw); go_simp); try with_reducible rfl)
                  try simp only [Act.put, List.setIfInBounds_toArray, List.set_cons_zero, List.set_cons_succ]
                  refine wpAnyH_done (by kernel_rfl) ?_ _
                  go_wp2_with fail
                  go_meet
                  exact ⟨rfl, by assumption⟩
                case rest =>
                  obtain ⟨rfl, hbd⟩ := hcut
                  go_wp2
                  go_ret
                  exact ⟨ret_int HN2.out.symm, below_more hbd hb (Nat.le_refl _)⟩
              | true =>
                rcases Nat.eq_zero_or_pos k with hk0 | hk0
                · have HSK : Hid (YA k = true) := by rw [Hid, HAK.out, HZ.out hk0]; rfl
                  go_cut [102] (fun v wx => v = .bool false ∧ Below wr.heap.size wr wx)
                  case first =>
                    have hd0 : decide (0 < (k : Int)) = false := decide_eq_false (by omega)
                    have hd1 : decide (0 < k) = false := decide_eq_false (by omega)
                    have hd2 : ¬ 0 < k := by omega
                    clear hk0
                    refine wp_region_held_drew (S := fun w' => Below wr.heap.size wr w') (by kernel_rfl) (Below.drew hbc) (fun hHeld => ?_)
                    refine wpAnyH_take (i := 0) (oi := { dst := some 70, op := Op.move (Operand.tmp 7), type := 3, pos := "ref.go:125", after := #[], guard := none }) (v := ?bv0) rfl (by kernel_rfl) (by kernel_rfl) (by kernel_rfl) (fun _ _ _ h => h) (Or.inl ⟨by rfl, ?bh0⟩) (by assumption) ?br0
                    case bh0 => ((intro w hSw; (try dsimp only at hSw); go_simp); try with_reducible rfl)
                    try simp only [Act.put, List.setIfInBounds_toArray, List.set_cons_zero, List.set_cons_succ]
                    refine wpAnyH_take (i := 1) (oi := { dst := some 71, op := Op.move (Operand.tmp 6), type := 3, pos := "ref.go:125", after := #[], guard := none }) (v := ?bv1) rfl (by kernel_rfl) (by kernel_rfl) (by kernel_rfl) (fun _ _ _ h => h) (Or.inl ⟨by rfl, ?bh1⟩) (by assumption) ?br1
                    case bh1 => ((intro w hSw; (try dsimp only at hSw); go_simp); try with_reducible rfl)
                    try simp only [Act.put, List.setIfInBounds_toArray, List.set_cons_zero, List.set_cons_succ]
                    refine wpAnyH_take (i := 2) (oi := { dst := some 72, op := Op.binOp BinOp.neq 3 (Operand.tmp 70) (Operand.tmp 71) 3, type := 4, pos := "ref.go:125", after := #[{ on := 0, ground := Ground.data }, { on := 1, ground := Ground.data }], guard := none }) (v := ?bv2) rfl (by kernel_rfl) (by kernel_rfl) (by kernel_rfl) (fun _ _ _ h => h) (Or.inl ⟨by rfl, ?bh2⟩) (by assumption) ?br2
                    case bh2 => ((intro w hSw; (try dsimp only at hSw); go_simp); try with_reducible rfl)
                    try simp only [Act.put, List.setIfInBounds_toArray, List.set_cons_zero, List.set_cons_succ]
                    refine wpAnyH_take (i := 3) (oi := { dst := some 73, op := Op.move (Operand.tmp 72), type := 4, pos := "ref.go:125", after := #[{ on := 2, ground := Ground.data }], guard := none }) (v := ?bv3) rfl (by kernel_rfl) (by kernel_rfl) (by kernel_rfl) (fun _ _ _ h => h) (Or.inl ⟨by rfl, ?bh3⟩) (by assumption) ?br3
                    case bh3 => ((intro w hSw; (try dsimp only at hSw); go_simp); try with_reducible rfl)
                    try simp only [Act.put, List.setIfInBounds_toArray, List.set_cons_zero, List.set_cons_succ]
                    refine wpAnyH_take (i := 4) (oi := { dst := some 74, op := Op.fieldAddr 25 (Operand.tmp 1) 1, type := 0, pos := "ref.go:125", after := #[{ on := 3, ground := Ground.guard }], guard := some (3, false) }) (v := ?bv4) rfl (by kernel_rfl) (by kernel_rfl) (by kernel_rfl) (fun _ _ _ h => h) (Or.inl ⟨by rfl, ?bh4⟩) (by assumption) ?br4
                    case bh4 => ((intro w hSw; (try dsimp only at hSw); go_simp); try with_reducible rfl)
                    try simp only [Act.put, List.setIfInBounds_toArray, List.set_cons_zero, List.set_cons_succ]
                    refine wpAnyH_take (i := 5) (oi := { dst := some 75, op := Op.load 23 (Operand.tmp 74), type := 23, pos := "ref.go:125", after := #[{ on := 4, ground := Ground.data }, { on := 3, ground := Ground.guard }], guard := some (3, false) }) (v := ?bv5) rfl (by kernel_rfl) (by kernel_rfl) (by kernel_rfl) (fun _ _ _ h => h) (Or.inl ⟨by rfl, ?bh5⟩) (by assumption) ?br5
                    case bh5 => ((intro w hSw; (try dsimp only at hSw); go_simp); try with_reducible rfl)
                    try simp only [Act.put, List.setIfInBounds_toArray, List.set_cons_zero, List.set_cons_succ]
                    refine wpAnyH_take (i := 6) (oi := { dst := some 76, op := Op.move (Operand.tmp 6), type := 3, pos := "ref.go:125", after := #[{ on := 3, ground := Ground.guard }], guard := some (3, false) }) (v := ?bv6) rfl (by kernel_rfl) (by kernel_rfl) (by kernel_rfl) (fun _ _ _ h => h) (Or.inl ⟨by rfl, ?bh6⟩) (by assumption) ?br6
                    case bh6 => ((intro w hSw; (try dsimp only at hSw); go_simp); try with_reducible rfl)
                    try simp only [Act.put, List.setIfInBounds_toArray, List.set_cons_zero, List.set_cons_succ]
                    refine wpAnyH_take (i := 7) (oi := { dst := some 77, op := Op.indexAddr 23 (Operand.tmp 75) (Operand.tmp 76), type := 0, pos := "ref.go:125", after := #[{ on := 5, ground := Ground.data }, { on := 6, ground := Ground.data }, { on := 3, ground := Ground.guard }], guard := some (3, false) }) (v := ?bv7) rfl (by kernel_rfl) (by kernel_rfl) (by kernel_rfl) (fun _ _ _ h => h) (Or.inl ⟨by rfl, ?bh7⟩) (by assumption) ?br7
                    case bh7 => ((intro w hSw; (try dsimp only at hSw); go_simp); try with_reducible rfl)
                    try simp only [Act.put, List.setIfInBounds_toArray, List.set_cons_zero, List.set_cons_succ]
                    refine wpAnyH_take (i := 8) (oi := { dst := some 78, op := Op.load 36 (Operand.tmp 77), type := 36, pos := "ref.go:125", after := #[{ on := 7, ground := Ground.data }, { on := 3, ground := Ground.guard }], guard := some (3, false) }) (v := ?bv8) rfl (by kernel_rfl) (by kernel_rfl) (by kernel_rfl) (fun _ _ _ h => h) (Or.inl ⟨by rfl, ?bh8⟩) (by assumption) ?br8
                    case bh8 => ((intro w hSw; (try dsimp only at hSw); go_simp); try with_reducible rfl)
                    try simp only [Act.put, List.setIfInBounds_toArray, List.set_cons_zero, List.set_cons_succ]
                    refine wpAnyH_take (i := 9) (oi := { dst := some 79, op := Op.fieldAddr 25 (Operand.tmp 1) 0, type := 0, pos := "ref.go:125", after := #[{ on := 3, ground := Ground.guard }], guard := some (3, false) }) (v := ?bv9) rfl (by kernel_rfl) (by kernel_rfl) (by kernel_rfl) (fun _ _ _ h => h) (Or.inl ⟨by rfl, ?bh9⟩) (by assumption) ?br9
                    case bh9 => ((intro w hSw; (try dsimp only at hSw); go_simp); try with_reducible rfl)
                    try simp only [Act.put, List.setIfInBounds_toArray, List.set_cons_zero, List.set_cons_succ]
                    refine wpAnyH_take (i := 10) (oi := { dst := some 80, op := Op.load 22 (Operand.tmp 79), type := 22, pos := "ref.go:125", after := #[{ on := 9, ground := Ground.data }, { on := 3, ground := Ground.guard }], guard := some (3, false) }) (v := ?bv10) rfl (by kernel_rfl) (by kernel_rfl) (by kernel_rfl) (fun _ _ _ h => h) (Or.inl ⟨by rfl, ?bh10⟩) (by assumption) ?br10
                    case bh10 => ((intro w hSw; (try dsimp only at hSw); go_simp); try with_reducible rfl)
                    try simp only [Act.put, List.setIfInBounds_toArray, List.set_cons_zero, List.set_cons_succ]
                    refine wpAnyH_ready (rs := [11]) (by kernel_rfl) (by simp) ?_
                    refine AllReadyH.cons (o := { dst := some 81, op := Op.call { callee := Callee.value (Operand.func 41), args := #[Operand.tmp 78, Operand.tmp 80], argTypes := #[36, 22] }, type := 4, pos := "ref.go:125", after := #[{ on := 8, ground := Ground.data }, { on := 10, ground := Ground.data }, { on := 3, ground := Ground.chain }, { on := 3, ground := Ground.guard }], guard := some (3, false) }) rfl (fun K hK => ?_) AllReadyH.nil
                    go_simp
                    (go_at_call 41; refine (HSEC.out _ (by assumption)).mono ?_; rintro e w1 ⟨rfl, hb1⟩; have hq2 : Below wr.heap.size wr w1 := below_more hb1 (by assumption) (Nat.le_refl _); clear hb1)
                    refine hK.out _ _ (by assumption) (fun hHeld => ?_)
                    clear hK K
                    try simp only [Act.put, List.setIfInBounds_toArray, List.set_cons_zero, List.set_cons_succ]
                    refine wpAnyH_take (i := 12) (oi := { dst := some 82, op := Op.unOp UnOp.not 4 (Operand.tmp 81), type := 4, pos := "ref.go:125", after := #[{ on := 11, ground := Ground.data }, { on := 3, ground := Ground.guard }], guard := some (3, false) }) (v := ?bv12) rfl (by kernel_rfl) (by kernel_rfl) (by kernel_rfl) (fun _ _ _ h => h) (Or.inl ⟨by rfl, ?bh12⟩) (by assumption) ?br12
                    case bh12 => ((intro w hSw; (try dsimp only at hSw); go_simp); try with_reducible rfl)
                    try simp only [Act.put, List.setIfInBounds_toArray, List.set_cons_zero, List.set_cons_succ]
                    refine wpAnyH_take (i := 13) (oi := { dst := some 83, op := Op.pick (Operand.tmp 73) (Operand.const (Value.bool true)) (Operand.tmp 82), type := 4, pos := "ref.go:125", after := #[{ on := 3, ground := Ground.data }, { on := 12, ground := Ground.data }], guard := none }) (v := ?bv13) rfl (by kernel_rfl) (by kernel_rfl) (by kernel_rfl) (fun _ _ _ h => h) (Or.inl ⟨by rfl, ?bh13⟩) (by assumption) ?br13
                    case bh13 => ((intro w hSw; (try dsimp only at hSw); go_simp); try with_reducible rfl)
                    try simp only [Act.put, List.setIfInBounds_toArray, List.set_cons_zero, List.set_cons_succ]
                    refine wpAnyH_take (i := 14) (oi := { dst := some 84, op := Op.move (Operand.tmp 83), type := 4, pos := "ref.go:125", after := #[{ on := 13, ground := Ground.data }, { on := 11, ground := Ground.chain }], guard := none }) (v := ?bv14) rfl (by kernel_rfl) (by kernel_rfl) (by kernel_rfl) (fun _ _ _ h => h) (Or.inl ⟨by rfl, ?bh14⟩) (by assumption) ?br14
                    case bh14 => ((intro w hSw; (try dsimp only at hSw); go_simp); try with_reducible rfl)
                    try simp only [Act.put, List.setIfInBounds_toArray, List.set_cons_zero, List.set_cons_succ]
                    refine wpAnyH_take (i := 15) (oi := { dst := some 85, op := Op.move (Operand.tmp 6), type := 3, pos := "ref.go:125", after := #[{ on := 14, ground := Ground.guard }], guard := some (14, false) }) (v := ?bv15) rfl (by kernel_rfl) (by kernel_rfl) (by kernel_rfl) (fun _ _ _ h => h) (Or.inl ⟨by rfl, ?bh15⟩) (by assumption) ?br15
                    case bh15 => ((intro w hSw; (try dsimp only at hSw); go_simp); try with_reducible rfl)
                    try simp only [Act.put, List.setIfInBounds_toArray, List.set_cons_zero, List.set_cons_succ]
                    refine wpAnyH_take (i := 16) (oi := { dst := some 86, op := Op.binOp BinOp.gtr 3 (Operand.tmp 85) (Operand.const (Value.int IntKind.i64 0)) 3, type := 4, pos := "ref.go:125", after := #[{ on := 15, ground := Ground.data }, { on := 14, ground := Ground.guard }], guard := some (14, false) }) (v := ?bv16) rfl (by kernel_rfl) (by kernel_rfl) (by kernel_rfl) (fun _ _ _ h => h) (Or.inl ⟨by rfl, ?bh16⟩) (by assumption) ?br16
                    case bh16 => ((intro w hSw; (try dsimp only at hSw); go_simp); try with_reducible rfl)
                    try simp only [Act.put, List.setIfInBounds_toArray, List.set_cons_zero, List.set_cons_succ]
                    refine wpAnyH_take (i := 17) (oi := { dst := some 87, op := Op.move (Operand.tmp 86), type := 4, pos := "ref.go:125", after := #[{ on := 16, ground := Ground.data }, { on := 14, ground := Ground.chain }, { on := 14, ground := Ground.guard }], guard := some (14, false) }) (v := ?bv17) rfl (by kernel_rfl) (by kernel_rfl) (by kernel_rfl) (fun _ _ _ h => h) (Or.inl ⟨by rfl, ?bh17⟩) (by assumption) ?br17
                    case bh17 => ((intro w hSw; (try dsimp only at hSw); go_simp); try with_reducible rfl)
                    try simp only [Act.put, List.setIfInBounds_toArray, List.set_cons_zero, List.set_cons_succ]
                    refine wpAnyH_take (i := 18) (oi := { dst := some 88, op := Op.fieldAddr 25 (Operand.tmp 1) 1, type := 0, pos := "ref.go:125", after := #[{ on := 17, ground := Ground.guard }], guard := some (17, true) }) (v := undef) rfl (by kernel_rfl) (by kernel_rfl) (by kernel_rfl) (fun _ _ _ h => h) (Or.inr ⟨by rfl, rfl⟩) (by assumption) ?_
                    try simp only [Act.put, List.setIfInBounds_toArray, List.set_cons_zero, List.set_cons_succ]
                    refine wpAnyH_take (i := 19) (oi := { dst := some 89, op := Op.load 23 (Operand.tmp 88), type := 23, pos := "ref.go:125", after := #[{ on := 18, ground := Ground.data }, { on := 17, ground := Ground.guard }], guard := some (17, true) }) (v := undef) rfl (by kernel_rfl) (by kernel_rfl) (by kernel_rfl) (fun _ _ _ h => h) (Or.inr ⟨by rfl, rfl⟩) (by assumption) ?_
                    try simp only [Act.put, List.setIfInBounds_toArray, List.set_cons_zero, List.set_cons_succ]
                    refine wpAnyH_take (i := 20) (oi := { dst := some 90, op := Op.move (Operand.tmp 6), type := 3, pos := "ref.go:125", after := #[{ on := 17, ground := Ground.guard }], guard := some (17, true) }) (v := undef) rfl (by kernel_rfl) (by kernel_rfl) (by kernel_rfl) (fun _ _ _ h => h) (Or.inr ⟨by rfl, rfl⟩) (by assumption) ?_
                    try simp only [Act.put, List.setIfInBounds_toArray, List.set_cons_zero, List.set_cons_succ]
                    refine wpAnyH_take (i := 21) (oi := { dst := some 91, op := Op.binOp BinOp.sub 3 (Operand.tmp 90) (Operand.const (Value.int IntKind.i64 1)) 3, type := 3, pos := "ref.go:125", after := #[{ on := 20, ground := Ground.data }, { on := 17, ground := Ground.guard }], guard := some (17, true) }) (v := undef) rfl (by kernel_rfl) (by kernel_rfl) (by kernel_rfl) (fun _ _ _ h => h) (Or.inr ⟨by rfl, rfl⟩) (by assumption) ?_
                    try simp only [Act.put, List.setIfInBounds_toArray, List.set_cons_zero, List.set_cons_succ]
                    refine wpAnyH_take (i := 22) (oi := { dst := some 92, op := Op.indexAddr 23 (Operand.tmp 89) (Operand.tmp 91), type := 0, pos := "ref.go:125", after := #[{ on := 19, ground := Ground.data }, { on := 21, ground := Ground.data }, { on := 17, ground := Ground.guard }], guard := some (17, true) }) (v := undef) rfl (by kernel_rfl) (by kernel_rfl) (by kernel_rfl) (fun _ _ _ h => h) (Or.inr ⟨by rfl, rfl⟩) (by assumption) ?_
                    try simp only [Act.put, List.setIfInBounds_toArray, List.set_cons_zero, List.set_cons_succ]
                    refine wpAnyH_take (i := 23) (oi := { dst := some 93, op := Op.load 36 (Operand.tmp 92), type := 36, pos := "ref.go:125", after := #[{ on := 22, ground := Ground.data }, { on := 17, ground := Ground.guard }], guard := some (17, true) }) (v := undef) rfl (by kernel_rfl) (by kernel_rfl) (by kernel_rfl) (fun _ _ _ h => h) (Or.inr ⟨by rfl, rfl⟩) (by assumption) ?_
                    try simp only [Act.put, List.setIfInBounds_toArray, List.set_cons_zero, List.set_cons_succ]
                    refine wpAnyH_take (i := 24) (oi := { dst := some 94, op := Op.fieldAddr 25 (Operand.tmp 1) 1, type := 0, pos := "ref.go:125", after := #[{ on := 17, ground := Ground.guard }], guard := some (17, true) }) (v := undef) rfl (by kernel_rfl) (by kernel_rfl) (by kernel_rfl) (fun _ _ _ h => h) (Or.inr ⟨by rfl, rfl⟩) (by assumption) ?_
                    try simp only [Act.put, List.setIfInBounds_toArray, List.set_cons_zero, List.set_cons_succ]
                    refine wpAnyH_take (i := 25) (oi := { dst := some 95, op := Op.load 23 (Operand.tmp 94), type := 23, pos := "ref.go:125", after := #[{ on := 24, ground := Ground.data }, { on := 17, ground := Ground.guard }], guard := some (17, true) }) (v := undef) rfl (by kernel_rfl) (by kernel_rfl) (by kernel_rfl) (fun _ _ _ h => h) (Or.inr ⟨by rfl, rfl⟩) (by assumption) ?_
                    try simp only [Act.put, List.setIfInBounds_toArray, List.set_cons_zero, List.set_cons_succ]
                    refine wpAnyH_take (i := 26) (oi := { dst := some 96, op := Op.move (Operand.tmp 6), type := 3, pos := "ref.go:125", after := #[{ on := 17, ground := Ground.guard }], guard := some (17, true) }) (v := undef) rfl (by kernel_rfl) (by kernel_rfl) (by kernel_rfl) (fun _ _ _ h => h) (Or.inr ⟨by rfl, rfl⟩) (by assumption) ?_
                    try simp only [Act.put, List.setIfInBounds_toArray, List.set_cons_zero, List.set_cons_succ]
                    refine wpAnyH_take (i := 27) (oi := { dst := some 97, op := Op.indexAddr 23 (Operand.tmp 95) (Operand.tmp 96), type := 0, pos := "ref.go:125", after := #[{ on := 25, ground := Ground.data }, { on := 26, ground := Ground.data }, { on := 17, ground := Ground.guard }], guard := some (17, true) }) (v := undef) rfl (by kernel_rfl) (by kernel_rfl) (by kernel_rfl) (fun _ _ _ h => h) (Or.inr ⟨by rfl, rfl⟩) (by assumption) ?_
                    try simp only [Act.put, List.setIfInBounds_toArray, List.set_cons_zero, List.set_cons_succ]
                    refine wpAnyH_take (i := 28) (oi := { dst := some 98, op := Op.load 36 (Operand.tmp 97), type := 36, pos := "ref.go:125", after := #[{ on := 27, ground := Ground.data }, { on := 17, ground := Ground.guard }], guard := some (17, true) }) (v := undef) rfl (by kernel_rfl) (by kernel_rfl) (by kernel_rfl) (fun _ _ _ h => h) (Or.inr ⟨by rfl, rfl⟩) (by assumption) ?_
                    try simp only [Act.put, List.setIfInBounds_toArray, List.set_cons_zero, List.set_cons_succ]
                    refine wpAnyH_take (i := 29) (oi := { dst := some 99, op := Op.call { callee := Callee.value (Operand.func 42), args := #[Operand.tmp 93, Operand.tmp 98], argTypes := #[36, 36] }, type := 4, pos := "ref.go:125", after := #[{ on := 23, ground := Ground.data }, { on := 28, ground := Ground.data }, { on := 17, ground := Ground.chain }, { on := 17, ground := Ground.guard }], guard := some (17, true) }) (v := undef) rfl (by kernel_rfl) (by kernel_rfl) (by kernel_rfl) (fun _ _ _ h => h) (Or.inr ⟨by rfl, rfl⟩) (by assumption) ?_
                    try simp only [Act.put, List.setIfInBounds_toArray, List.set_cons_zero, List.set_cons_succ]
                    refine wpAnyH_take (i := 30) (oi := { dst := some 100, op := Op.unOp UnOp.not 4 (Operand.tmp 99), type := 4, pos := "ref.go:125", after := #[{ on := 29, ground := Ground.data }, { on := 17, ground := Ground.guard }], guard := some (17, true) }) (v := undef) rfl (by kernel_rfl) (by kernel_rfl) (by kernel_rfl) (fun _ _ _ h => h) (Or.inr ⟨by rfl, rfl⟩) (by assumption) ?_
                    try simp only [Act.put, List.setIfInBounds_toArray, List.set_cons_zero, List.set_cons_succ]
                    refine wpAnyH_take (i := 31) (oi := { dst := some 101, op := Op.pick (Operand.tmp 87) (Operand.tmp 100) (Operand.const (Value.bool false)), type := 4, pos := "ref.go:125", after := #[{ on := 17, ground := Ground.data }, { on := 30, ground := Ground.data }, { on := 14, ground := Ground.guard }], guard := some (14, false) }) (v := ?bv31) rfl (by kernel_rfl) (by kernel_rfl) (by kernel_rfl) (fun _ _ _ h => h) (Or.inl ⟨by rfl, ?bh31⟩) (by assumption) ?br31
                    case bh31 => ((intro w hSw; (try dsimp only at hSw); go_simp); try with_reducible rfl)
                    try simp only [Act.put, List.setIfInBounds_toArray, List.set_cons_zero, List.set_cons_succ]
                    refine wpAnyH_take (i := 32) (oi := { dst := some 102, op := Op.pick (Operand.tmp 84) (Operand.const (Value.bool true)) (Operand.tmp 101), type := 4, pos := "ref.go:125", after := #[{ on := 14, ground := Ground.data }, { on := 31, ground := Ground.data }], guard := none }) (v := ?bv32) rfl (by kernel_rfl) (by kernel_rfl) (by kernel_rfl) (fun _ _ _ h => h) (Or.inl ⟨by rfl, ?bh32⟩) (by assumption) ?br32
                    case bh32 => ((intro w hSw; (try dsimp only at hSw); go_simp); try with_reducible rfl)
                    try simp only [Act.put, List.setIfInBounds_toArray, List.set_cons_zero, List.set_cons_succ]
                    refine wpAnyH_done (by kernel_rfl) ?_ _
                    go_wp2_with fail
                    go_meet
                    exact ⟨rfl, by assumption⟩
                  case rest =>
                    obtain ⟨rfl, hbd⟩ := hcut
                    have hbd2 := below_more hbd hb (Nat.le_refl _)
                    have HBD := hid (HALL.out _ hbd)
                    clear a0 a1 a2 a3 g0 g1 hk0
                    go_wp2
                    go_roundw
                    case rel => exact ⟨k + 1, by omega, by go_num, fun j hj => by
                      by_cases e : j = k
                      · subst e; exact HSK.out
                      · exact HOK.out j (by omega), hbd2, HBD.out⟩
                    case measure => simp [intOf]; omega
                · obtain ⟨m, hmk, hml, hah⟩ := HPREV.out hk0
                  have b0 : ∀ w', Below wr.heap.size wr w' → _ := fun w' hw => (sy_cells (hrowy.below (below_more hw hb (Nat.le_refl _))) m hml).1
                  have b1 : ∀ w', Below wr.heap.size wr w' → _ := fun w' hw => (sy_cells (hrowy.below (below_more hw hb (Nat.le_refl _))) m hml).2.1
                  have b2 : ∀ w', Below wr.heap.size wr w' → _ := fun w' hw => (sy_cells (hrowy.below (below_more hw hb (Nat.le_refl _))) m hml).2.2.1
                  have b3 : ∀ w', Below wr.heap.size wr w' → _ := fun w' hw => (sy_cells (hrowy.below (below_more hw hb (Nat.le_refl _))) m hml).2.2.2
                  have HAH := hid (fun w1 (_ : Below wr.heap.size wr w1) => ahead_any syms[m] ⟨nm, kd, al, sz⟩ w1)
                  generalize syms[m] = y at b0 b1 b2 b3 HAH hah
                  obtain ⟨yn, ys, yv, yg⟩ := y
                  unfold Sy.cells at HAH
                  dsimp only at b0 b1 b2 b3 HAH
                  obtain ⟨ab, hab⟩ : ∃ ab, ab = aheadP ⟨yn, ys, yv, yg⟩ ⟨nm, kd, al, sz⟩ := ⟨_, rfl⟩
                  rw [← hab] at HAH hah
                  have hmx : IntKind.i64.wrap ((k : Int) - 1) = (m : Int) := by rw [IntWalk.i64_in _ (by omega)]; omega
                  have hko : decide (0 < (k : Int)) = true := decide_eq_true (by omega)
                  have hkp : 0 < k := hk0
                  have HAB : Hid (YA k = ab) := by rw [Hid, HAK.out, hah]; simp
                  have HK0 := hid hk0
                  clear HPREV HZ hah hab hmk hk0
                  go_cut [102] (fun v wx => v = .bool (!ab) ∧ Below wr.heap.size wr wx)
                  case first =>
                    go_region_held3 (fun w' => Below wr.heap.size wr w') (first | exact (Below.drew hbc) | assumption) (first | (go_at_call 41; with_reducible refine (HSEC.out _ (by assumption)).mono ?_; rintro e w' ⟨rfl, hbq⟩; have hq2 : Below wr.heap.size wr w' := below_more hbq (by assumption) (Nat.le_refl _); clear hbq) | (go_at_call 42; with_reducible refine (HAH.out _ (by assumption)).mono ?_; rintro e w' ⟨rfl, hbq⟩; have hq2 : Below wr.heap.size wr w' := below_more hbq (by assumption) (Nat.le_refl _); clear hbq))
                    all_goals (go_wp2_with fail; go_meet)
                    all_goals exact ⟨by simp, by assumption⟩
                  case rest =>
                    obtain ⟨rfl, hbd⟩ := hcut
                    have hbd2 := below_more hbd hb (Nat.le_refl _)
                    have HBD := hid (HALL.out _ hbd)
                    clear a0 a1 a2 a3 b0 b1 b2 b3 g0 g1 hmx hko hkp
                    cases ab with
                    | false =>
                      have HN2 : Hid (CK = 140) := HNO.out (by rw [HD.out, HSA.out, allTo_false hlt HAB.out]; simp)
                      go_wp2
                      go_ret
                      exact ⟨ret_int HN2.out.symm, hbd2⟩
                    | true =>
                      go_wp2
                      go_roundw
                      case rel => exact ⟨k + 1, by omega, by go_num, fun j hj => by
                        by_cases e : j = k
                        · subst e; exact HAB.out
                        · exact HOK.out j (by omega), hbd2, HBD.out⟩
                      case measure => simp [intOf]; omega
        · obtain rfl : k = syms.length := by omega
          have HFIN : Hid (CK = 0) := HYES.out (by rw [HD.out, HF.out, HSA.out, allTo_true HOK.out]; rfl)
          have d0 := cell_of_row wr w.heap.size 1 _ _ _ hblk
          simp only [List.getElem?_toArray, List.getElem?_cons_zero, List.getElem?_cons_succ] at d0
          clear hall hblk HALL
          go_wp2
          go_ret
          exact ⟨ret_int HFIN.out.symm, hb⟩
end Go.Proofs.Yteccpmmedpkddaa
