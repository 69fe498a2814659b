/-
  The walk of ObjectFound.
-/
import Derived.Test.YteccpmmedpkddaaFindI
import Derived.Test.YteccpmmedpkddaaBegun
namespace Go.Proofs.Yteccpmmedpkddaa
open Go.RowKit

theorem idxP_at {l : List ByteArray} {s : ByteArray} {j : Nat} (h : idxP l s = some j) : ∃ hj : j < l.length, l[j] = s := by
  unfold idxP at h
  rw [List.findIdx?_eq_some_iff_getElem] at h
  obtain ⟨h1, h2, _⟩ := h
  rw [named_eq] at h2
  exact ⟨h1, (of_decide_eq_true h2).symm⟩
theorem ok_syms {o : Ob} (h : okO o = true) (k : Nat) (hk : k < o.syms.length) : idxP (o.syms.map Sy.name) (o.syms[k]).name = some k := by
  unfold okO at h
  simp only [Bool.and_eq_true] at h
  have h1 := allTo_iff.1 h.1.2 k hk
  unfold symAt at h1
  rw [Bool.and_eq_true] at h1
  have h2 := h1.2
  rw [freshAt_eq _ _ (by simpa using hk)] at h2
  have := idx_fresh (o.syms.map Sy.name) k (by simpa using hk) (by simpa using h2)
  simpa using this
theorem ok_secs {o : Ob} (h : okO o = true) (k : Nat) (hk : k < o.secs.length) : idxP (o.secs.map Sc.name) (o.secs[k]).name = some k := by
  unfold okO at h
  simp only [Bool.and_eq_true] at h
  have h1 := allTo_iff.1 h.1.1.2 k hk
  unfold secAt at h1
  rw [Bool.and_eq_true] at h1
  have h2 := h1.2
  rw [freshAt_eq _ _ (by simpa using hk)] at h2
  have := idx_fresh (o.secs.map Sc.name) k (by simpa using hk) (by simpa using h2)
  simpa using this

set_option maxRecDepth 20000 in
set_option maxHeartbeats 8000000 in
theorem found_walk (w : World) (o : Ob) (ho : o.ok w) (s : ByteArray) (hs : s.size ≤ 140737488351232) :
    Calls Try.prog 4 #[.agg o.cells.toArray, .string s] w fun e w' => e = .returned (.bool true) ∧ Below w.heap.size w w' := by
  have HB := hid (fun w => begun_any w)
  have HF := hid (fun w1 (hb : Below w.heap.size w w1) => few_any o w1 (ho.below hb))
  have HFI := hid (fun s w1 (hb : Below w.heap.size w w1) => find_any o s w1 (ho.below hb))
  have HSE := hid (fun s w1 (hb : Below w.heap.size w w1) => sect_any o s w1 (ho.below hb))
  have HC := hid (fun w1 (hb : Below w.heap.size w w1) => check_any o w1 (ho.below hb))
  have HOKY := hid (fun h k hk => ok_syms (o := o) h k hk)
  have HOKS := hid (fun h k hk => ok_secs (o := o) h k hk)
  have HCK : Hid (okO o = false → ckO o = 140) := fun h => by simp [ckO, h]
  have HCY : Hid (okO o = true → ckO o = 0) := fun h => by simp [ckO, h]
  have hrow := ho.secs
  have hcap := ho.scap
  have hrowy := ho.syms
  have hcapy := ho.ycap
  generalize ckO o = C at HC HCK HCY
  generalize okO o = OK at HOKY HOKS HCK HCY
  generalize fewL o = F at HF
  clear ho
  obtain ⟨secs, sp, sc, syms, yp, yc⟩ := o
  unfold Ob.cells at HF HFI HSE HC
  dsimp only at HF HFI HSE HC HOKY HOKS hrow hcap hrowy hcapy
  obtain ⟨hc1, hc2, _⟩ := hcap
  obtain ⟨hy1, hy2, _⟩ := hcapy
  show Calls Try.prog 4 #[.agg #[.slice sp secs.length sc, .slice yp syms.length yc], .string s] w _
  have hbx : Below w.heap.size w (w.alloc (.cells #[.slice sp secs.length sc, .slice yp syms.length yc] 25)) := (Below.refl _ _).alloc (Nat.le_refl _) _
  obtain ⟨wd, hwd⟩ : ∃ wd, wd = w.alloc (.cells #[.slice sp secs.length sc, .slice yp syms.length yc] 25) := ⟨_, rfl⟩
  have hblk : wd.heap[w.heap.size]? = some (.cells #[.slice sp secs.length sc, .slice yp syms.length yc] 25 (0, 0)) := by rw [hwd]; exact heap_alloc_new w _
  rw [← hwd] at hbx
  have hall : ∀ w', Below wd.heap.size wd w' → w'.heap[w.heap.size]? = _ := fun w' hb => (hb.block _ (Array.getElem?_eq_some_iff.1 hblk).1).trans hblk
  have g0 : ∀ w', Below wd.heap.size wd w' → _ := fun w' hb => cell_of_row w' _ 0 _ _ _ (hall w' hb)
  have g1 : ∀ w', Below wd.heap.size wd w' → _ := fun w' hb => cell_of_row w' _ 1 _ _ _ (hall w' hb)
  simp only [List.getElem?_toArray, List.getElem?_cons_zero, List.getElem?_cons_succ] at g0 g1
  have HBX := hid hbx
  have hq0 : Below wd.heap.size wd wd := Below.refl _ _
  have dl := (Array.getElem?_eq_some_iff.1 hblk).1
  clear hall hblk
  go_enter Try.func4, Try.ntmps4
  go_upto_region 1 with (fail)
  rw [← hwd]
  clear hwd hbx
  cases F with
  | false =>
    go_wp2_with (first
      | (go_at_call 8; refine (HB.out _).mono ?_; rintro e w' ⟨rfl, hbq⟩; have hq2 : Below wd.heap.size wd w' := below_more hbq (by assumption) (Nat.le_refl _); clear hbq)
      | (go_at_call 13; refine (HF.out _ (below_more (by assumption) HBX.out (Nat.le_refl _))).mono ?_; rintro e w' ⟨rfl, hbq⟩; have hq2 : Below wd.heap.size wd w' := below_more hbq (by assumption) (Nat.le_refl _); clear hbq))
    go_ret
    exact ⟨ret_bool rfl, below_more (by assumption) HBX.out (Nat.le_refl _)⟩
  | true =>
    go_upto_region 3 with (first
      | (go_at_call 8; refine (HB.out _).mono ?_; rintro e w' ⟨rfl, hbq⟩; have hq2 : Below wd.heap.size wd w' := below_more hbq (by assumption) (Nat.le_refl _); clear hbq)
      | (go_at_call 13; refine (HF.out _ (below_more (by assumption) HBX.out (Nat.le_refl _))).mono ?_; rintro e w' ⟨rfl, hbq⟩; have hq2 : Below wd.heap.size wd w' := below_more hbq (by assumption) (Nat.le_refl _); clear hbq))
    have HFS := hid (HFI.out s)
    obtain ⟨r, hr⟩ : ∃ r, r = idxP (syms.map Sy.name) s := ⟨_, rfl⟩
    rw [← hr] at HFS
    have HAT : Hid (∀ j, r = some j → ∃ hj : j < syms.length, (syms[j]).name = s) := fun j e => by
      subst e
      obtain ⟨hj, h⟩ := idxP_at hr.symm
      exact ⟨by simpa using hj, by simpa using h⟩
    clear hr
    rcases r with _ | j
    all_goals
      unfold idxV at HFS
      dsimp only [Option.getD_some, Option.getD_none, Option.isSome_some, Option.isSome_none] at HFS
      first
        | (obtain ⟨hj, hjn⟩ := HAT.out j rfl
           obtain ⟨b, off, hp, hbs, hzz⟩ := hrowy.at (by have := flat_len Sy.cells 4 (fun _ => rfl) syms; omega)
           have b0 : ∀ w', Below wd.heap.size wd w' → w'.cell? ⟨b, off + j * 4, none⟩ = some (.string s) := fun w' hw => by
             cases hp
             have := (sy_cells (hrowy.below (below_more hw HBX.out (Nat.le_refl _))) j hj).1
             rw [hjn] at this
             exact this
           cases hp
           clear hzz hjn)
        | skip
      clear HAT
      go_upto_region 6 with (go_at_call 16; refine (HFS.out _ (below_more (by assumption) HBX.out (Nat.le_refl _))).mono ?_; rintro e w' ⟨rfl, hbq⟩; have hq2 : Below wd.heap.size wd w' := below_more hbq (by assumption) (Nat.le_refl _); clear hbq)
      cases OK with
      | false =>
        have hC := HCK.out rfl
        subst hC
        go_wp2_with (go_at_call 14; refine (HC.out _ (below_more (by assumption) HBX.out (Nat.le_refl _))).mono ?_; rintro e w' ⟨rfl, hbq⟩; have hq2 : Below wd.heap.size wd w' := below_more hbq (by assumption) (Nat.le_refl _); clear hbq)
        go_ret
        exact ⟨ret_bool rfl, below_more (by assumption) HBX.out (Nat.le_refl _)⟩
      | true =>
        have hC := HCY.out rfl
        subst hC
        go_wp2_with (go_at_call 14; refine (HC.out _ (below_more (by assumption) HBX.out (Nat.le_refl _))).mono ?_; rintro e w' ⟨rfl, hbq⟩; have hq2 : Below wd.heap.size wd w' := below_more hbq (by assumption) (Nat.le_refl _); clear hbq)
        go_loopw [57] (fun i wr => ∃ k : Nat, k ≤ syms.length ∧ i = .int .i64 k ∧ Below wd.heap.size wd wr) (fun i _ => syms.length - (intOf i).toNat)
        case atStart => exact ⟨0, Nat.zero_le _, rfl, by assumption⟩
        case round =>
          obtain ⟨k, hk, rfl, hb⟩ := hrel
          have hsz := hb.size
          by_cases hlt : k < syms.length
          · have HFK := hid (HFI.out (syms[k]).name)
            rw [HOKY.out trivial k hlt] at HFK
            unfold idxV at HFK
            dsimp only [Option.getD_some, Option.isSome_some] at HFK
            obtain ⟨b, off, hp, hbs, hzz⟩ := hrowy.at (by have := flat_len Sy.cells 4 (fun _ => rfl) syms; omega)
            cases hp
            clear hzz
            obtain ⟨c0, c1, c2, c3⟩ := sy_cells (hrowy.below (below_more hb HBX.out (Nat.le_refl _))) k hlt
            generalize syms[k] = x at c0 c1 c2 c3 HFK
            obtain ⟨nm, sc', vl, gl⟩ := x
            dsimp only at c0 c1 c2 c3 HFK
            have hkk : ((k : Int) != k) = false := by simp
            have x0 := g0 _ hb
            have x1 := g1 _ hb
            have hbl : Below wd.heap.size wd (wr.alloc (.cells #[.string nm, .int .i64 sc', .int .i64 vl, .bool gl] 36)) := hb.alloc hsz _
            go_wp2_with (go_at_call 16; refine (HFK.out _ (below_more hbl HBX.out (Nat.le_refl _))).mono ?_; rintro e w1 ⟨rfl, hb1⟩)
            go_roundw
            case rel => exact ⟨k + 1, by omega, by go_num, below_more hb1 hbl (Nat.le_refl _)⟩
            case measure => simp [intOf]; omega
          · have hfin : syms.length ≤ k := by omega
            obtain rfl : k = syms.length := by omega
            have x0 := g0 _ hb
            have x1 := g1 _ hb
            go_wp2
            obtain ⟨wo, rfl⟩ : ∃ wo : World, wo = wr := ⟨_, rfl⟩
            have hbo := hb
            clear hb hsz x0 x1
            go_loopw [80] (fun i wr => ∃ k : Nat, k ≤ secs.length ∧ i = .int .i64 k ∧ Below wd.heap.size wd wr) (fun i _ => secs.length - (intOf i).toNat)
            case atStart => exact ⟨0, Nat.zero_le _, rfl, by assumption⟩
            case round =>
              obtain ⟨k, hk, rfl, hb⟩ := hrel
              have hsz := hb.size
              by_cases hlt : k < secs.length
              · have HFK := hid (HSE.out (secs[k]).name)
                rw [HOKS.out trivial k hlt] at HFK
                unfold idxV at HFK
                dsimp only [Option.getD_some, Option.isSome_some] at HFK
                obtain ⟨b, off, hp, hbs, hzz⟩ := hrow.at (by have := flat_len Sc.cells 6 (fun _ => rfl) secs; omega)
                cases hp
                clear hzz
                obtain ⟨c0, c1, c2, c3, c4, c5⟩ := sc_cells (hrow.below (below_more hb HBX.out (Nat.le_refl _))) k hlt
                generalize secs[k] = x at c0 c1 c2 c3 c4 c5 HFK
                obtain ⟨nm, kd, al, sz, da, dp, dc, rl, rp, rc⟩ := x
                dsimp only at c0 c1 c2 c3 c4 c5 HFK
                have hkk : ((k : Int) != k) = false := by simp
                have x0 := g0 _ hb
                have x1 := g1 _ hb
                have hbl : Below wd.heap.size wd (wr.alloc (.cells #[.string nm, .int .i64 kd, .int .i64 al, .int .i64 sz, .slice dp da.length dc, .slice rp rl.length rc] 40)) := hb.alloc hsz _
                go_wp2_with (go_at_call 17; refine (HFK.out _ (below_more hbl HBX.out (Nat.le_refl _))).mono ?_; rintro e w1 ⟨rfl, hb1⟩)
                go_roundw
                case rel => exact ⟨k + 1, by omega, by go_num, below_more hb1 hbl (Nat.le_refl _)⟩
                case measure => simp [intOf]; omega
              · have hfin : secs.length ≤ k := by omega
                obtain rfl : k = secs.length := by omega
                have x0 := g0 _ hb
                have x1 := g1 _ hb
                go_wp2
                go_ret
                exact ⟨ret_bool rfl, below_more hb HBX.out (Nat.le_refl _)⟩
end Go.Proofs.Yteccpmmedpkddaa
