/-
  The walk of ObjectFinds.
-/
import Derived.Test.YteccpmmedpkddaaFindI
import Derived.Test.YteccpmmedpkddaaBegun
import Derived.Test.YteccpmmedpkddaaIterU
import Derived.Test.YteccpmmedpkddaaAt
namespace Go.Proofs.Yteccpmmedpkddaa
open Go.RowKit

theorem Row.takeS {W : World} {p : Option Addr} {ls : List ByteArray} (h : Row W p (strs ls)) (m : Nat) : Row W p (strs (ls.take m)) := by
  intro hne
  obtain ⟨b, f, rfl, hc⟩ := h (by rintro e; apply hne; simp [strs] at e ⊢; exact .inr e)
  refine ⟨b, f, rfl, fun i hi => ?_⟩
  have := hc i (by simp [strs] at hi ⊢; omega)
  simpa [strs] using this

set_option maxRecDepth 20000 in
set_option maxHeartbeats 8000000 in
theorem finds_walk (w : World) (o : Ob) (ho : o.ok w) (s : ByteArray) (hs : s.size ≤ 140737488351232) (sec : Int) (hsec : inI64 sec) (off : Int) (hoff : inI64 off) (mo : Int) (hmo : 0 ≤ mo) (hmo2 : mo < 256) :
    Calls Try.prog 5 #[.agg o.cells.toArray, .string s, .int .i64 sec, .int .i64 off, .int .u8 mo] w fun e w' => e = .returned (.bool true) ∧ Below w.heap.size w w' := by
  have HB := hid (fun w => begun_any w)
  have HF := hid (fun w1 (hb : Below w.heap.size w w1) => few_any o w1 (ho.below hb))
  have HFI := hid (fun w1 (hb : Below w.heap.size w w1) => find_any o s w1 (ho.below hb))
  have HSE := hid (fun w1 (hb : Below w.heap.size w w1) => sect_any o s w1 (ho.below hb))
  have HRFI := hid (fun w1 (hb : Below w.heap.size w w1) => rfind_any o s w1 (ho.below hb))
  have HRSE := hid (fun w1 (hb : Below w.heap.size w w1) => rsect_any o s w1 (ho.below hb))
  have HAT := hid (fun w1 (hb : Below w.heap.size w w1) => at_any o sec off w1 (ho.below hb) hsec hoff)
  have HRAT := hid (fun w1 (hb : Below w.heap.size w w1) => rat_any o sec off w1 (ho.below hb) hsec hoff)
  have HUN := hid (fun w1 (hb : Below w.heap.size w w1) => rund_any o w1 (ho.below hb))
  have HUI := hid (fun w1 (hb : Below w.heap.size w w1) => undI_any o w1 (ho.below hb))
  have hUl : Hid ((undP o.syms).length ≤ o.syms.length) := und_len o.syms
  have hfew : Hid (fewL o = true → o.syms.length ≤ 300) := fun h => by
    unfold fewL at h
    simp at h
    omega
  generalize idxP (o.syms.map Sy.name) s = R1 at HFI HRFI
  generalize idxP (o.secs.map Sc.name) s = R2 at HSE HRSE
  generalize bestN o.syms sec off o.syms.length = R3 at HAT HRAT
  generalize undP o.syms = U at HUN HUI hUl
  generalize fewL o = F at HF hfew
  unfold idxV at HFI HSE HRFI HRSE HAT HRAT
  unfold UndPost at HUN
  generalize ((R1.getD 0 : Nat) : Int) = A1 at HFI HRFI
  generalize R1.isSome = B1 at HFI HRFI
  generalize ((R2.getD 0 : Nat) : Int) = A2 at HSE HRSE
  generalize R2.isSome = B2 at HSE HRSE
  generalize ((R3.getD 0 : Nat) : Int) = A3 at HAT HRAT
  generalize R3.isSome = B3 at HAT HRAT
  clear ho
  obtain ⟨secs, sp, sc, syms, yp, yc⟩ := o
  unfold Ob.cells at HF HFI HSE HRFI HRSE HAT HRAT HUN HUI
  dsimp only at HF HFI HSE HRFI HRSE HAT HRAT HUN HUI hUl hfew
  show Calls Try.prog 5 #[.agg #[.slice sp secs.length sc, .slice yp syms.length yc], .string s, .int .i64 sec, .int .i64 off, .int .u8 mo] w _
  have hbx : Below w.heap.size w (w.alloc (.cells #[.slice sp secs.length sc, .slice yp syms.length yc] 25)) := (Below.refl _ _).alloc (Nat.le_refl _) _
  obtain ⟨wd, hwd⟩ : ∃ wd, wd = w.alloc (.cells #[.slice sp secs.length sc, .slice yp syms.length yc] 25) := ⟨_, rfl⟩
  have hblk : wd.heap[w.heap.size]? = some (.cells #[.slice sp secs.length sc, .slice yp syms.length yc] 25 (0, 0)) := by rw [hwd]; exact heap_alloc_new w _
  rw [← hwd] at hbx
  have hall : ∀ w', Below wd.heap.size wd w' → w'.heap[w.heap.size]? = _ := fun w' hb => (hb.block _ (Array.getElem?_eq_some_iff.1 hblk).1).trans hblk
  have g0 : ∀ w', Below wd.heap.size wd w' → _ := fun w' hb => cell_of_row w' _ 0 _ _ _ (hall w' hb)
  have g1 : ∀ w', Below wd.heap.size wd w' → _ := fun w' hb => cell_of_row w' _ 1 _ _ _ (hall w' hb)
  simp only [List.getElem?_toArray, List.getElem?_cons_zero, List.getElem?_cons_succ] at g0 g1
  have HBX := hid hbx
  have hq0 : Below wd.heap.size wd wd := Below.refl _ _
  have dl := (Array.getElem?_eq_some_iff.1 hblk).1
  clear hall hblk
  go_enter Try.func5, Try.ntmps5
  go_upto_region 1 with (fail)
  rw [← hwd]
  clear hwd hbx
  cases F with
  | false =>
    go_wp2_with (first
      | (go_at_call 8; refine (HB.out _).mono ?_; rintro e w' ⟨rfl, hbq⟩; have hq2 : Below wd.heap.size wd w' := below_more hbq (by assumption) (Nat.le_refl _); clear hbq)
      | (go_at_call 13; refine (HF.out _ (below_more (by assumption) HBX.out (Nat.le_refl _))).mono ?_; rintro e w' ⟨rfl, hbq⟩; have hq2 : Below wd.heap.size wd w' := below_more hbq (by assumption) (Nat.le_refl _); clear hbq))
    go_ret
    exact ⟨ret_bool rfl, below_more (by assumption) HBX.out (Nat.le_refl _)⟩
  | true =>
    have hfw := hfew.out rfl
    have hUl2 := hUl.out
    have hU3 : U.length ≤ 300 := by omega
    clear hfw hUl2
    go_upto_region 10 with (first
      | (go_at_call 8; refine (HB.out _).mono ?_; rintro e w' ⟨rfl, hbq⟩; have hq2 : Below wd.heap.size wd w' := below_more hbq (by assumption) (Nat.le_refl _); clear hbq)
      | (go_at_call 13; refine (HF.out _ (below_more (by assumption) HBX.out (Nat.le_refl _))).mono ?_; rintro e w' ⟨rfl, hbq⟩; have hq2 : Below wd.heap.size wd w' := below_more hbq (by assumption) (Nat.le_refl _); clear hbq)
      | (go_at_call 16; refine (HFI.out _ (below_more (by assumption) HBX.out (Nat.le_refl _))).mono ?_; rintro e w' ⟨rfl, hbq⟩; have hq2 : Below wd.heap.size wd w' := below_more hbq (by assumption) (Nat.le_refl _); clear hbq)
      | (go_at_call 18; refine (HRFI.out _ (below_more (by assumption) HBX.out (Nat.le_refl _))).mono ?_; rintro e w' ⟨rfl, hbq⟩; have hq2 : Below wd.heap.size wd w' := below_more hbq (by assumption) (Nat.le_refl _); clear hbq)
      | (go_at_call 17; refine (HSE.out _ (below_more (by assumption) HBX.out (Nat.le_refl _))).mono ?_; rintro e w' ⟨rfl, hbq⟩; have hq2 : Below wd.heap.size wd w' := below_more hbq (by assumption) (Nat.le_refl _); clear hbq)
      | (go_at_call 19; refine (HRSE.out _ (below_more (by assumption) HBX.out (Nat.le_refl _))).mono ?_; rintro e w' ⟨rfl, hbq⟩; have hq2 : Below wd.heap.size wd w' := below_more hbq (by assumption) (Nat.le_refl _); clear hbq)
      | (go_at_call 20; refine (HAT.out _ (below_more (by assumption) HBX.out (Nat.le_refl _))).mono ?_; rintro e w' ⟨rfl, hbq⟩; have hq2 : Below wd.heap.size wd w' := below_more hbq (by assumption) (Nat.le_refl _); clear hbq)
      | (go_at_call 21; refine (HRAT.out _ (below_more (by assumption) HBX.out (Nat.le_refl _))).mono ?_; rintro e w' ⟨rfl, hbq⟩; have hq2 : Below wd.heap.size wd w' := below_more hbq (by assumption) (Nat.le_refl _); clear hbq)
      | (go_at_call 22; refine (HUN.out _ (below_more (by assumption) HBX.out (Nat.le_refl _))).mono ?_; rintro e wu ⟨vu, rfl, hown, hbq⟩; have hqu : Below wd.heap.size wd wu := below_more hbq (by assumption) (Nat.le_refl _); clear hbq))
    obtain ⟨p0, c0, rfl, hc0, hc0m, hr0, hp0, hg0⟩ := own_row hown
    clear HB HF HFI HRFI HSE HRSE HAT HRAT HUN hown
    have k0 : ∀ w', Below wu.heap.size wu w' → w'.cell? ⟨w.heap.size, 0, none⟩ = some (.slice sp secs.length sc) := fun w' h => g0 w' (below_more h hqu (Nat.le_refl _))
    have k1 : ∀ w', Below wu.heap.size wu w' → w'.cell? ⟨w.heap.size, 1, none⟩ = some (.slice yp syms.length yc) := fun w' h => g1 w' (below_more h hqu (Nat.le_refl _))
    have HUI2 := hid (fun w1 (hb : Below wu.heap.size wu w1) => HUI.out w1 (below_more (below_more hb hqu (Nat.le_refl _)) HBX.out (Nat.le_refl _)))
    have HTM := hid (fun b q c w1 h1 h2 h3 h4 => toldI_any U (by omega) b q c mo hmo w1 h1 h2 h3 h4)
    have hVl : (U.take mo.toNat).length = min mo.toNat U.length := List.length_take
    have hVr : ∀ w1, Below wu.heap.size wu w1 → Row w1 p0 (strs (U.take mo.toNat)) := fun w1 hb => Row.takeS (hr0.below hb) _
    generalize U.take mo.toNat = V at HTM hVl hVr
    have hmin : min (U.length : Int) mo = (V.length : Int) := by omega
    have hVU : V.length ≤ U.length := by omega
    have hV3 : V.length ≤ 300 := by omega
    have hVU2 : (V.length : Int) ≤ (U.length : Int) := by omega
    have hVc : (V.length : Int) ≤ (c0 : Int) := by omega
    have hVc2 : V.length ≤ c0 := by omega
    have hr0 := hid (fun w1 (hb : Below wu.heap.size wu w1) => hr0.below hb)
    have hVr := hid hVr
    have HT9 := hid (fun b q c w1 h1 h2 h3 h4 => toldI_any U (by omega) b q c 999 (by omega) w1 h1 h2 h3 h4)
    clear hVl
    have e9 : U.take (Int.toNat 999) = U := List.take_of_length_le (by simp; omega)
    rw [e9] at HT9
    have hwr : IntKind.i64.wrap mo = mo := IntWalk.i64_in _ (by omega)
    clear g0 g1 HUI
    go_region_held3 (fun w' => Below wu.heap.size wu w') (first | exact (Below.refl _ _).drew | assumption) (first
      | (go_at_call 25; with_reducible refine (HUI2.out _ (by assumption)).mono ?_; rintro e w' ⟨b, q, c, rfl, hcl, hbl, hrw, hql, hbq⟩; have hq2 : Below wu.heap.size wu w' := below_more hbq (by assumption) (Nat.le_refl _); clear hbq)
      | (go_at_call 24; with_reducible refine (HT9.out _ _ _ _ (by assumption) (by assumption) (by assumption) (by assumption)).mono ?_; rintro e w' ⟨p, d, rfl, hrt, hbq⟩; have hq2 : Below wu.heap.size wu w' := below_more hbq (by assumption) (Nat.le_refl _); clear hbq)
      | (go_at_call 24; with_reducible refine (HTM.out _ _ _ _ (by assumption) (by assumption) (by assumption) (by assumption)).mono ?_; rintro e w' ⟨p, d, rfl, hrt, hbq⟩; have hq2 : Below wu.heap.size wu w' := below_more hbq (by assumption) (Nat.le_refl _); clear hbq)
      | (go_at_call 23; with_reducible refine (eqS_any U (by omega) _ _ _ _ _ (by assumption) (hr0.out _ (by assumption))).mono ?_; rintro e w' ⟨rfl, hbq⟩; have hq2 : Below wu.heap.size wu w' := below_more hbq (by assumption) (Nat.le_refl _); clear hbq)
      | (go_at_call 23; with_reducible refine (eqS_any V (by omega) _ _ _ _ _ (by assumption) (hVr.out _ (by assumption))).mono ?_; rintro e w' ⟨rfl, hbq⟩; have hq2 : Below wu.heap.size wu w' := below_more hbq (by assumption) (Nat.le_refl _); clear hbq))
    all_goals (go_wp2_with (fail))
    all_goals (go_ret; refine ⟨ret_bool ?_, below_more (below_more (by assumption) hqu (Nat.le_refl _)) HBX.out (Nat.le_refl _)⟩)
    all_goals (first | rfl | simp | skip)
end Go.Proofs.Yteccpmmedpkddaa
