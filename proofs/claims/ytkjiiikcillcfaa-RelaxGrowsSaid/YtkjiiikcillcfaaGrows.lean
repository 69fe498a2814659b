/-
  The walk of RelaxGrows.
-/
import Derived.Test.YtkjiiikcillcfaaFlat
import Derived.IntWalk
import Derived.Lib.SliceRun
namespace Go.Proofs.Ytkjiiikcillcfaa
open Go.RowKit

def ClonePostI (xs : List It) (w : World) (e : Ending) (w' : World) : Prop :=
  ∃ g c, e = .returned (.slice (some ⟨g, 0, none⟩) xs.length c) ∧ w'.ownsRow w.heap.size 34 7 (.slice (some ⟨g, 0, none⟩) xs.length c) xs.length (itCells xs) ∧ Below w.heap.size w w'

set_option maxHeartbeats 1000000 in
theorem cloneI_any (a : Addr) (c : Nat) (xs : List It) (w : World) (hm : xs.length ≤ 1000000) (h0 : 0 < xs.length) (hrow : Row w (some a) (itCells xs)) :
    Calls Try.prog 15 #[.slice (some a) xs.length c] w (ClonePostI xs w) := by
  have hnil := fun (w : World) (n c : Nat) => Lib.run_eql_slice_nil (P := Try.prog) w 22 34 (some a) n c 0 0 Try.underlying22
  go_enter Try.func15, Try.ntmps15
  go_wp2_with ((with_reducible show wpList _ _ _ (⟨some 7, _, _, _, _, _⟩ :: _) _ _); go_loud (refine wpList_app E22 rfl _ _ rfl w.heap.size _ 0 [] rfl (own_new w [] 34 w.heap.size 0 7 (Nat.le_refl _) rfl (by decide)) _ _ _ (itCells xs) rfl (by rw [itCells_len]; omega) (by simp) (hrow.alloc _) (it_one xs) (by unfold maxLen; omega) (by omega) (by simp) ?_); intro v2 w2 ho2 hg2 hs2; rw [Nat.zero_add, List.nil_append] at ho2)
  have hg2 : (w.alloc (.cells #[] 34)).grownBy w2 (some w.heap.size) := hg2
  obtain ⟨g, c2, rfl, _⟩ := own_block ho2 h0
  go_ret
  exact ⟨g, c2, rfl, ho2, ((Below.refl _ _).alloc (Nat.le_refl _) _).grown hg2 (by simp) (by rintro k e; cases e; exact Nat.le_refl _)⟩

/-- xs with more bytes in item k. -/
def moreB (xs : List It) (k : Nat) (m : Int) : List It := match xs[k]? with | some x => xs.set k { x with size := x.size + m } | none => xs
theorem moreB_len (xs : List It) (k : Nat) (m : Int) : (moreB xs k m).length = xs.length := by unfold moreB; split <;> simp
theorem cells_set (xs : List It) (k : Nat) (y : It) (h : k < xs.length) (m : Int) (hy : y = { xs[k] with size := m }) : itCells (xs.set k y) = (itCells xs).set (k * 7 + 1) (i64 m) := by
  induction xs generalizing k with
  | nil => simp at h
  | cons a l ih =>
    cases k with
    | zero =>
      simp only [List.getElem_cons_zero] at hy
      subst hy
      simp [itCells, It.cells]
    | succ k =>
      have := ih k (by simpa using h) hy
      simp only [List.set_cons_succ, itCells, List.flatMap_cons] at this ⊢
      rw [this]
      have e7 : (It.cells a).length = 7 := rfl
      rw [List.set_append_right _ _ (by rw [e7]; omega), e7, show (k + 1) * 7 + 1 - 7 = k * 7 + 1 by omega]
theorem moreB_cells (xs : List It) (k : Nat) (m : Int) (h : k < xs.length) : itCells (moreB xs k m) = (itCells xs).set (k * 7 + 1) (i64 (xs[k].size + m)) := by
  unfold moreB
  rw [List.getElem?_eq_getElem h]
  exact cells_set xs k _ h _ rfl
theorem moreB_over (xs : List It) (k : Nat) (m : Int) (h : k < xs.length) (hm : 0 ≤ m) (hk : xs[k].kind = 1) : Over xs (moreB xs k m) := by
  refine ⟨moreB_len xs k m, fun j hj hj2 => ?_⟩
  have e : (moreB xs k m)[j] = if j = k then { xs[k] with size := xs[k].size + m } else xs[j] := by
    simp only [moreB, List.getElem?_eq_getElem h, List.getElem_set]
    by_cases hjk : j = k
    · subst hjk; simp
    · rw [if_neg (fun e => hjk e.symm), if_neg hjk]
  rw [e]
  by_cases hjk : j = k
  · subst hjk
    rw [if_pos rfl]
    exact ⟨rfl, fun _ => ⟨rfl, rfl, rfl, rfl⟩, fun _ => by dsimp only; omega⟩
  · rw [if_neg hjk]
    exact ⟨rfl, fun _ => ⟨rfl, rfl, rfl, rfl⟩, fun _ => Int.le_refl _⟩

set_option maxHeartbeats 4000000 in
theorem grows_law (w : World) (p : Option Addr) (c : Nat) (xs : List It) (hp : p = none → c = 0) (hrow : Row w p (itCells xs)) (at_ more : Int) (ha0 : 0 ≤ at_) (ha1 : at_ ≤ 65535) (hm0 : 0 ≤ more) (hm1' : more ≤ 65535) :
    Calls Try.prog 4 #[.slice p xs.length c, .int .u16 at_, .int .u16 more] w fun e w' => e = .returned (.bool true) ∧ Below w.heap.size w w' := by
  have HLV := hid (live_any w)
  rcases Classical.em (xs.length ≤ 300) with hx | hx
  · have HF : Hid (∀ w1, Calls Try.prog 9 #[.slice p xs.length c] w1 fun e w' => e = .returned (.bool true) ∧ w1 = w') := fun w1 => by
      have := few_any p c xs w1
      rw [decide_eq_true hx] at this
      exact this
    have hm1 : xs.length ≤ 1000000 := by omega
    have H10 := hid (fun w1 (hb : Below w.heap.size w w1) => refcheck_any p c xs w1 hm1 (hrow.below hb))
    rcases Classical.em (checkP xs = 0) with hck | hck
    · rw [hck] at H10
      have H11 := hid (fun w1 (hb : Below w.heap.size w w1) => flat_any p c xs w1 hm1 (hrow.below hb))
      cases hfl : flatAll xs with
      | false =>
        rw [hfl] at H11
        clear hfl hck hx
        go_enter Try.func4, Try.ntmps4
        go_wp2_with (first
          | (go_at_call 8; refine HLV.out.mono ?_; rintro e w1 ⟨rfl, hb1⟩)
          | (go_at_call 9; refine (HF.out _).mono ?_; rintro e w2 ⟨rfl, rfl⟩)
          | (go_at_call 10; refine (H10.out _ hb1).mono ?_; rintro e w3 ⟨rfl, hb3⟩; have hbw3 := hb1.trans (hb3.mono hb1.size))
          | (go_at_call 11; refine (H11.out _ hbw3).mono ?_; rintro e w4 ⟨rfl, hb4⟩; have hbw4 := hbw3.trans (hb4.mono hbw3.size)))
        go_ret
        exact ⟨ret_bool rfl, hbw4⟩
      | true =>
        rw [hfl] at H11
        rcases Classical.em (xs.length = 0) with h0 | h0
        · have hl0 : (((xs.length : Nat) : Int) == 0) = true := by rw [beq_iff_eq]; omega
          clear hfl hck hx h0
          go_enter Try.func4, Try.ntmps4
          go_wp2_with (first
            | (go_at_call 8; refine HLV.out.mono ?_; rintro e w1 ⟨rfl, hb1⟩)
            | (go_at_call 9; refine (HF.out _).mono ?_; rintro e w2 ⟨rfl, rfl⟩)
            | (go_at_call 10; refine (H10.out _ hb1).mono ?_; rintro e w3 ⟨rfl, hb3⟩; have hbw3 := hb1.trans (hb3.mono hb1.size))
            | (go_at_call 11; refine (H11.out _ hbw3).mono ?_; rintro e w4 ⟨rfl, hb4⟩; have hbw4 := hbw3.trans (hb4.mono hbw3.size)))
          go_ret
          exact ⟨ret_bool rfl, hbw4⟩
        · have hl0 : (((xs.length : Nat) : Int) == 0) = false := by rw [beq_eq_false_iff_ne]; omega
          have hpos : 0 < xs.length := by omega
          clear h0
          obtain ⟨k, hk⟩ : ∃ k : Nat, at_ % (xs.length : Int) = (k : Int) := ⟨(at_ % (xs.length : Int)).toNat, by have := Int.emod_nonneg at_ (show (xs.length : Int) ≠ 0 by omega); omega⟩
          have hlt : k < xs.length := by have := Int.emod_lt_of_pos at_ (show (0 : Int) < xs.length by omega); omega
          have hk2 : at_.tmod (xs.length : Int) = (k : Int) := by rw [Int.tmod_eq_emod_of_nonneg ha0]; exact hk
          have hl7 := itCells_len xs
          obtain ⟨b, off, rfl, hbl, hzz⟩ := hrow.at (by omega)
          clear hzz hl7
          obtain ⟨c0, c1, c2, c3, c4, c5, c6⟩ := item_cells hrow k hlt
          have HC0 := hid (fun (w1 : World) (hb : Below w.heap.size w w1) => (hb.cell (p := ⟨b, off + k * 7, none⟩) hbl).trans c0)
          clear c0 c1 c2 c3 c4 c5 c6
          rcases Classical.em (xs[k].kind = 1) with hki | hki
          · obtain ⟨hcl, hpl, _⟩ := checkP_ok hck
            have hsz := hpl _ (List.getElem_mem hlt)
            have hsz : 0 ≤ xs[k].size ∧ xs[k].size ≤ 67108864 := by simp [plainP, hki, within] at hsz; omega
            obtain ⟨hs0, hs1⟩ := hsz
            rw [hki] at HC0
            have HSC := hid (moreB_cells xs k more hlt)
            have HOV := hid (moreB_over xs k more hlt hm0 hki)
            have HYL := hid (moreB_len xs k more)
            have hi1 : k * 7 + 1 < (itCells xs).length := by rw [itCells_len]; omega
            have HG1 : Hid ((itCells xs)[k * 7 + 1] = i64 xs[k].size) := by
              have := itCells_get xs k hlt 1 (by omega)
              rw [show 7 * k + 1 = k * 7 + 1 by omega, List.getElem?_eq_getElem hi1] at this
              simp [It.cells] at this
              exact this
            have H15 := hid (fun w1 (hb : Below w.heap.size w w1) => cloneI_any ⟨b, off, none⟩ c xs w1 hm1 hpos (hrow.below hb))
            have H13 := hid (fun w1 (hb : Below w.heap.size w w1) => Relax_any (some ⟨b, off, none⟩) c xs w1 hm1 hp (hrow.below hb))
            have HLX : Hid ((relaxRes xs).length = xs.length) := (relax_fit hck).1.len
            clear hki hpl
            obtain ⟨sz, hszz⟩ : ∃ sz, sz = xs[k].size := ⟨_, rfl⟩
            rw [← hszz] at HSC HG1 hs0 hs1
            clear hszz
            obtain ⟨ys, hys⟩ : ∃ ys, ys = moreB xs k more := ⟨_, rfl⟩
            rw [← hys] at HSC HOV HYL
            clear hys
            have H10Y := hid (fun (g c' : Nat) (w1 : World) (hr : Row w1 (some ⟨g, 0, none⟩) (itCells ys)) => HYL.out ▸ refcheck_any (some ⟨g, 0, none⟩) c' ys w1 (by rw [HYL.out]; omega) hr)
            have HST := hid (fun (W w4 : World) (g c' : Nat) (h : W.ownsRow w4.heap.size 34 7 (.slice (some ⟨g, 0, none⟩) xs.length c') xs.length (itCells xs)) =>
              show Row (W.setCell ⟨g, k * 7 + 1, none⟩ (i64 (sz + more))) (some ⟨g, 0, none⟩) (itCells ys) by
                have h2 := own_set h (k * 7 + 1) (i64 (sz + more))
                rw [← HSC.out] at h2
                obtain ⟨p', c'', e, hr⟩ := own_shape h2
                cases e
                exact hr)
            have HCE := hid (fun (W w4 : World) (g c' : Nat) (h : W.ownsRow w4.heap.size 34 7 (.slice (some ⟨g, 0, none⟩) xs.length c') xs.length (itCells xs)) => HG1.out ▸ own_cell h (k * 7 + 1) hi1)
            rcases Classical.em (checkP ys = 0) with hcy | hcy
            · have H13Y := hid (fun (g c' : Nat) (w1 : World) (hr : Row w1 (some ⟨g, 0, none⟩) (itCells ys)) => HYL.out ▸ Relax_any (some ⟨g, 0, none⟩) c' ys w1 (by rw [HYL.out]; omega) (by simp) hr)
              have HLY : Hid ((relaxRes ys).length = xs.length) := (relax_fit hcy).1.len.trans HYL.out
              have HALL : Hid (allP (relaxRes xs) (relaxRes ys) = true) := relax_least hck HOV.out hfl HLY.out (relax_fit hcy).2
              unfold RelaxPost at H13 H13Y
              rw [hck] at H13
              rw [hcy] at H10Y H13Y
              clear hcy hck hfl hx
              obtain ⟨A, hA⟩ : ∃ A, A = relaxRes xs := ⟨_, rfl⟩
              obtain ⟨B, hB⟩ : ∃ B, B = relaxRes ys := ⟨_, rfl⟩
              rw [← hA] at HALL HLX H13
              rw [← hB] at HALL HLY H13Y
              clear hA hB
              have H14 := hid (fun (p' q' : Option Addr) (c' d' : Nat) w1 (h1 : Row w1 p' (bools A)) (h2 : Row w1 q' (bools B)) => all_any p' q' c' d' A B w1 h1 h2 (by rw [HLX.out]; omega) (by rw [HLY.out]; omega))
              rw [HALL.out] at H14
              go_enter Try.func4, Try.ntmps4
              go_wp2_with (first
                | (go_at_call 8; refine HLV.out.mono ?_; rintro e w1 ⟨rfl, hb1⟩)
                | (go_at_call 9; refine (HF.out _).mono ?_; rintro e w2 ⟨rfl, rfl⟩)
                | (go_at_call 10; refine (H10Y.out _ _ _ hr5).mono ?_; rintro e w6 ⟨rfl, hb6⟩; have hr6 := hr5.below hb6; have hbw6 := hbs5.trans (hb6.mono hbs5.size))
                | (go_at_call 10; refine (H10.out _ hb1).mono ?_; rintro e w3 ⟨rfl, hb3⟩; have hbw3 := hb1.trans (hb3.mono hb1.size))
                | (go_at_call 11; refine (H11.out _ hbw3).mono ?_; rintro e w4 ⟨rfl, hb4⟩; have hbw4 := hbw3.trans (hb4.mono hbw3.size); have hc4 := HC0.out _ hbw4)
                | (go_at_call 15; refine (H15.out _ hbw4).mono ?_; rintro e w5 ⟨g, c5, rfl, ho5, hb5⟩; obtain ⟨hce5, hfr5⟩ := HCE.out _ _ _ _ ho5; have hr5 := HST.out _ _ _ _ ho5; have hg5 := own_ge ho5 g rfl; have hgw5 := hbw4.size; have hbs5 := (hbw4.trans (hb5.mono hbw4.size)).setCell (p := ⟨g, k * 7 + 1, none⟩) (show w.heap.size ≤ g by omega) (i64 (sz + more)))
                | (go_at_call 13; refine (H13Y.out _ _ _ hr7).mono ?_; rintro e w8 ⟨p8, c8, rfl, hr8, hb8⟩; have hbw8 := hbw7.trans (hb8.mono hbw7.size); have hra8 := hra7.below hb8)
                | (go_at_call 13; refine (H13.out _ hbw6).mono ?_; rintro e w7 ⟨p7, c7, rfl, hra7, hb7⟩; have hbw7 := hbw6.trans (hb7.mono hbw6.size); have hr7 := hr6.below hb7)
                | (go_at_call 14; refine (H14.out _ _ _ _ _ hra8 hr8).mono ?_; rintro e w9 ⟨rfl, rfl⟩))
              go_ret
              exact ⟨ret_bool rfl, hbw8⟩
            · obtain ⟨E, hE⟩ : ∃ E, E = checkP ys := ⟨_, rfl⟩
              rw [← hE] at H10Y hcy
              have hne : (E != 0) = true := by simpa using hcy
              clear hE hcy hck hfl hx
              go_enter Try.func4, Try.ntmps4
              go_wp2_with (first
                | (go_at_call 8; refine HLV.out.mono ?_; rintro e w1 ⟨rfl, hb1⟩)
                | (go_at_call 9; refine (HF.out _).mono ?_; rintro e w2 ⟨rfl, rfl⟩)
                | (go_at_call 10; refine (H10Y.out _ _ _ hr5).mono ?_; rintro e w6 ⟨rfl, hb6⟩; have hr6 := hr5.below hb6; have hbw6 := hbs5.trans (hb6.mono hbs5.size))
                | (go_at_call 10; refine (H10.out _ hb1).mono ?_; rintro e w3 ⟨rfl, hb3⟩; have hbw3 := hb1.trans (hb3.mono hb1.size))
                | (go_at_call 11; refine (H11.out _ hbw3).mono ?_; rintro e w4 ⟨rfl, hb4⟩; have hbw4 := hbw3.trans (hb4.mono hbw3.size); have hc4 := HC0.out _ hbw4)
                | (go_at_call 15; refine (H15.out _ hbw4).mono ?_; rintro e w5 ⟨g, c5, rfl, ho5, hb5⟩; obtain ⟨hce5, hfr5⟩ := HCE.out _ _ _ _ ho5; have hr5 := HST.out _ _ _ _ ho5; have hg5 := own_ge ho5 g rfl; have hgw5 := hbw4.size; have hbs5 := (hbw4.trans (hb5.mono hbw4.size)).setCell (p := ⟨g, k * 7 + 1, none⟩) (show w.heap.size ≤ g by omega) (i64 (sz + more))))
              go_ret
              exact ⟨ret_bool rfl, hbw6⟩
          · have hne : (xs[k].kind != 1) = true := by simpa using hki
            obtain ⟨K, hK⟩ : ∃ K, K = xs[k].kind := ⟨_, rfl⟩
            rw [← hK] at HC0 hne
            clear hK hki hfl hck hx
            go_enter Try.func4, Try.ntmps4
            go_wp2_with (first
              | (go_at_call 8; refine HLV.out.mono ?_; rintro e w1 ⟨rfl, hb1⟩)
              | (go_at_call 9; refine (HF.out _).mono ?_; rintro e w2 ⟨rfl, rfl⟩)
              | (go_at_call 10; refine (H10.out _ hb1).mono ?_; rintro e w3 ⟨rfl, hb3⟩; have hbw3 := hb1.trans (hb3.mono hb1.size))
              | (go_at_call 11; refine (H11.out _ hbw3).mono ?_; rintro e w4 ⟨rfl, hb4⟩; have hbw4 := hbw3.trans (hb4.mono hbw3.size); have hc4 := HC0.out _ hbw4))
            go_ret
            exact ⟨ret_bool rfl, hbw4⟩
    · obtain ⟨E, hE⟩ : ∃ E, E = checkP xs := ⟨_, rfl⟩
      rw [← hE] at H10 hck
      have hne : (E != 0) = true := by simpa using hck
      clear hE hck hx
      go_enter Try.func4, Try.ntmps4
      go_wp2_with (first
        | (go_at_call 8; refine HLV.out.mono ?_; rintro e w1 ⟨rfl, hb1⟩)
        | (go_at_call 9; refine (HF.out _).mono ?_; rintro e w2 ⟨rfl, rfl⟩)
        | (go_at_call 10; refine (H10.out _ hb1).mono ?_; rintro e w3 ⟨rfl, hb3⟩; have hbw3 := hb1.trans (hb3.mono hb1.size)))
      go_ret
      exact ⟨ret_bool rfl, hbw3⟩
  · have HF : Hid (∀ w1, Calls Try.prog 9 #[.slice p xs.length c] w1 fun e w' => e = .returned (.bool false) ∧ w1 = w') := fun w1 => by
      have := few_any p c xs w1
      rw [decide_eq_false hx] at this
      exact this
    clear hx
    go_enter Try.func4, Try.ntmps4
    go_wp2_with (first
      | (go_at_call 8; refine HLV.out.mono ?_; rintro e w1 ⟨rfl, hb1⟩)
      | (go_at_call 9; refine (HF.out _).mono ?_; rintro e w2 ⟨rfl, rfl⟩))
    go_ret
    exact ⟨ret_bool rfl, hb1⟩

theorem wf_u16 {n : Int} (h : (Lit.int .u16 n).wf = true) : 0 ≤ n ∧ n ≤ 65535 := by
  simp [Lit.wf, IntKind.min, IntKind.max, IntKind.bits, IntKind.signed] at h
  omega

theorem grows_walk (w : World) (p : Option Addr) (c : Nat) (xs : List It) (_ : xs.length ≤ c) (_ : c ≤ maxLen) (hp : p = none → c = 0) (_ : ∀ x ∈ xs, x.ok) (hrow : Row w p (itCells xs))
    (a : Int) (ha : (Lit.int .u16 a).wf = true) (m : Int) (hm : (Lit.int .u16 m).wf = true) :
    Calls Try.prog 4 #[.slice p xs.length c, .int .u16 a, .int .u16 m] w fun e w' => e = .returned (.bool true) ∧ Below w.heap.size w w' :=
  grows_law w p c xs hp hrow a m (wf_u16 ha).1 (wf_u16 ha).2 (wf_u16 hm).1 (wf_u16 hm).2
end Go.Proofs.Ytkjiiikcillcfaa
