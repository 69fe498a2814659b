/-
  The walks of the document's Build and what it calls.
-/
import Derived.Test.YtaophcndkhnbeaaK
namespace Go.Proofs.Ytaophcndkhnbeaa
open Go.RowKit

theorem zero_any (s : ByteArray) (w : World) (hs : s.size ≤ 9223372036854775807) :
    Calls Try.prog 26 #[.string s] w fun e w' => e = .returned (.bool (hasZero s)) ∧ w = w' := by
  go_enter Try.func26, Try.ntmps26
  go_wp2
  go_loop [3] (fun i => ∃ k : Nat, k ≤ s.size ∧ i = .int .i64 k ∧ (s.data.toList.take k).contains 0 = false) (fun i => s.size - (intOf i).toNat)
  case atStart => exact ⟨0, Nat.zero_le _, rfl, rfl⟩
  case round =>
    obtain ⟨k, hk, rfl, hz⟩ := hrel
    have HZ := hid hz
    clear hz
    have hsl : s.data.toList.length = s.size := by rw [Array.length_toList]; rfl
    have HL := hid hsl
    clear hsl
    by_cases hlt : k < s.size
    · have HT : Hid ((s.data.toList.take (k + 1)).contains 0 = ((s.data.toList.take k).contains 0 || (s[k] == 0))) := by
        simp only [Hid]
        rw [take_succ _ k (by rw [HL.out]; exact hlt)]
        have e : s.data.toList[k]'(by rw [HL.out]; exact hlt) = s[k] := rfl
        rw [e, Bool.eq_iff_iff]
        simp only [List.contains_append, Bool.or_eq_true, List.contains_cons, List.contains_nil, Bool.or_false, beq_iff_eq]
        constructor
        · rintro (h | h)
          · exact .inl h
          · exact .inr h.symm
        · rintro (h | h)
          · exact .inl h
          · exact .inr h.symm
      by_cases h0 : s[k] = 0
      · have h1 : ((s[k].toNat : Int) == 0) = true := by rw [h0]; rfl
        have HB : Hid (hasZero s = true) := by
          simp only [Hid, hasZero]
          rw [List.contains_iff_mem]
          exact List.mem_iff_getElem.2 ⟨k, by rw [HL.out]; exact hlt, h0⟩
        clear h0
        go_wp2
        go_ret
        exact ⟨by rw [HB.out]; rfl, rfl⟩
      · have h1 : ((s[k].toNat : Int) == 0) = false := by
          rw [beq_eq_false_iff_ne]
          intro e
          apply h0
          have : s[k].toNat = 0 := by omega
          exact UInt8.toNat_inj.1 this
        have HB : Hid ((s.data.toList.take (k + 1)).contains 0 = false) := by
          simp only [Hid]
          rw [HT.out, HZ.out]; simp [h0]
        clear h0
        go_wp2
        go_round
        case rel => exact ⟨k + 1, by omega, by go_num, HB.out⟩
        case measure => simp [intOf]; omega
    · have HB : Hid (hasZero s = false) := by
        have : k = s.size := by omega
        subst this
        have := HZ.out
        rw [List.take_of_length_le (by rw [HL.out]; omega)] at this
        exact this
      go_wp2
      go_ret
      exact ⟨by rw [HB.out]; rfl, rfl⟩

set_option maxHeartbeats 400000 in
theorem first_any (b off c : Nat) (xs : List ByteArray) (i : Nat) (w : World) (hi : i < xs.length) (hm : xs.length ≤ 1000000)
    (hcell : ∀ j (h : j < xs.length), w.cell? ⟨b, off + j, none⟩ = some (.string xs[j])) :
    Calls Try.prog 27 #[.slice (some ⟨b, off, none⟩) xs.length c, .int .i64 i] w fun e w' => e = .returned (.int .i64 (firstOf xs xs[i])) ∧ ∃ n, w' = w.drewN n := by
  have hci := hcell i hi
  obtain ⟨x, hx⟩ : ∃ x, x = xs[i] := ⟨_, rfl⟩
  have HX := hid hx
  rw [← hx] at hci ⊢
  clear hx
  go_enter Try.func27, Try.ntmps27
  go_wp2
  go_loopw [5] (fun u wr => ∃ k n : Nat, k ≤ i ∧ u = .int .i64 k ∧ wr = w.drewN n ∧ k ≤ firstOf xs x) (fun u _ => i - (intOf u).toNat)
  case atStart => exact ⟨0, 0, Nat.zero_le _, rfl, rfl, Nat.zero_le _⟩
  case round =>
    obtain ⟨k, n, hk, rfl, rfl, hf⟩ := hrel
    by_cases hlt : k < i
    · have hck := hcell k (by omega)
      obtain ⟨y, hy⟩ : ∃ y, y = xs[k] := ⟨_, rfl⟩
      rw [← hy] at hck
      have HY := hid hy
      clear hy hcell
      have b1 : (k : Int) < xs.length := by omega
      have b2 : (i : Int) < xs.length := by omega
      by_cases he : y = x
      · have h1 := strEq he
        have HB : Hid (firstOf xs x = k) := by
          exact (firstOf_step xs x k hf (by omega)).1 (by rw [← HY.out]; exact he)
        clear he
        go_wp2
        go_quiet (fail)
        go_wp2
        go_ret
        exact ⟨by rw [HB.out]; rfl, n + nq, World.drewN_drewN _ _ _⟩
      · have h1 := strNe he
        have HB : Hid (k + 1 ≤ firstOf xs x) := by
          exact (firstOf_step xs x k hf (by omega)).2 (by rw [← HY.out]; exact he)
        clear he
        go_wp2
        go_quiet (fail)
        go_wp2
        go_roundw
        case rel => exact ⟨k + 1, n + nq, by omega, by go_num, rfl, HB.out⟩
        case measure => simp [intOf]; omega
    · have hki : k = i := by omega
      subst hki
      have HB : Hid (firstOf xs x = k) := by
        have := firstOf_le xs k hi
        rw [← HX.out] at this
        simp only [Hid]; omega
      clear hcell
      go_wp2
      go_ret
      exact ⟨by rw [HB.out]; rfl, _, rfl⟩
/-- What the second loop of the document's Build keeps. -/
structure RInv (W : World) (xs : List ByteArray) (k : Nat) (tv pv : Value) (wr : World) : Prop where
  fits : rlong xs k = false
  tab : wr.ownsRow W.heap.size 5 1 tv (rst xs k).1.length (u8s (rst xs k).1)
  places : wr.ownsRow W.heap.size 3 1 pv (rst xs k).2.length (i64s (rst xs k).2)
  apart : Apart tv pv
  below : Below W.heap.size W wr

set_option maxRecDepth 100000 in
set_option maxHeartbeats 2000000 in
theorem refbuild_any (p : Option Addr) (c : Nat) (xs : List ByteArray) (w : World) (hm : xs.length ≤ 1000000) (hs : ∀ s ∈ xs, s.size ≤ 9223372036854775807)
    (hbig : ∀ k (h : k < xs.length), rlong xs k = false → (rst xs k).1.length + xs[k].size + 1 ≤ 140737488355328) (hrow : Row w p (xs.map Value.string)) :
    Calls Try.prog 11 #[.slice p xs.length c] w fun e w' => ∃ tv pv, e = .returned (.tuple #[tv, pv, .int .i64 (buildR xs).2.2]) ∧
      w'.ownsRow w.heap.size 5 1 tv (buildR xs).1.length (u8s (buildR xs).1) ∧ w'.ownsRow w.heap.size 3 1 pv (buildR xs).2.1.length (i64s (buildR xs).2.1) ∧ Below w.heap.size w w' := by
  go_enter Try.func11, Try.ntmps11
  go_wp2_with fail
  go_loop [5] (fun i => ∃ k : Nat, k ≤ xs.length ∧ i = .int .i64 k ∧ (xs.take k).any hasZero = false) (fun i => xs.length - (intOf i).toNat)
  case atStart => exact ⟨0, Nat.zero_le _, rfl, rfl⟩
  case round =>
    obtain ⟨k, hk, rfl, hz⟩ := hrel
    have HZ := hid hz
    clear hz
    by_cases hlt : k < xs.length
    · clear hbig
      obtain ⟨b, off, rfl, hbw, hcell⟩ := hrow.at (by simp; omega)
      have hcx := hcell k (by simp; omega)
      simp only [List.getElem_map] at hcx
      have hsx := hs _ (List.getElem_mem hlt)
      have HT := hid (take_succ xs k hlt)
      have HM := hid (List.getElem_mem hlt)
      clear hcell hs
      obtain ⟨n, hn⟩ : ∃ n, n = xs[k] := ⟨_, rfl⟩
      rw [← hn] at hcx hsx HT HM
      clear hn
      cases hz : hasZero n
      · have HB : Hid ((xs.take (k + 1)).any hasZero = false) := by
          simp only [Hid]; rw [HT.out, List.any_append, HZ.out]; simp [hz]
        go_wp2_with (go_at_call 26; refine (zero_any _ _ (by assumption)).mono ?_; rintro e w' ⟨rfl, rfl⟩)
        go_round
        case rel => exact ⟨k + 1, by omega, by go_num, HB.out⟩
        case measure => simp [intOf]; omega
      · have HB : Hid (buildR xs = ([], [], 6)) := by
          have : xs.any hasZero = true := List.any_eq_true.2 ⟨n, HM.out, hz⟩
          simp [Hid, buildR, this]
        go_wp2_with (go_at_call 26; refine (zero_any _ _ (by assumption)).mono ?_; rintro e w' ⟨rfl, rfl⟩)
        go_ret3
        rw [HB.out]
        exact ⟨.slice none 0 0, .slice none 0 0, rfl, World.ownsRow_nil _ _ _ _, World.ownsRow_nil _ _ _ _, Below.refl _ _⟩
    · have HA : Hid (xs.any hasZero = false) := by
        have := HZ.out
        rw [List.take_of_length_le (by omega)] at this
        exact this
      clear HZ
      have hkl : k = xs.length := by omega
      subst hkl
      have hb0 : Below w.heap.size w (w.alloc (.cells #[.int .u8 0] 5)) := (Below.refl _ w).alloc (Nat.le_refl _) _
      have ho0 := own_new w [.int .u8 0] 5 w.heap.size 1 1 (Nat.le_refl _) rfl (by decide)
      have inv0 : RInv w xs 0 (.slice (some ⟨w.heap.size, 0, none⟩) 1 1) (.slice none 0 0) (w.alloc (.cells #[.int .u8 0] 5)) :=
        ⟨rfl, ho0, World.ownsRow_nil _ _ _ _, (Apart.nil _).symm, hb0⟩
      clear hb0 ho0
      go_wp2_with fail
      go_loopw [6, 7, 8] (fun tv pv i wr => ∃ k : Nat, k ≤ xs.length ∧ i = .int .i64 k ∧ RInv w xs k tv pv wr) (fun _ _ i _ => xs.length - (intOf i).toNat)
      case atStart => exact ⟨0, Nat.zero_le _, rfl, inv0⟩
      case round =>
        clear inv0
        obtain ⟨k, hk, rfl, inv⟩ := hrel
        by_cases hlt : k < xs.length
        · obtain ⟨b, off, rfl, hbw, hcell0⟩ := hrow.at (by simp; omega)
          have hcell : ∀ j (h : j < xs.length), w.cell? ⟨b, off + j, none⟩ = some (.string xs[j]) := fun j h => by
            have := hcell0 j (by simp; omega)
            simpa using this
          obtain ⟨h1, h2, h3, h4, h5⟩ := inv
          have hcr : ∀ j (h : j < xs.length), wr.cell? ⟨b, off + j, none⟩ = some (.string xs[j]) := fun j h => (h5.cell (p := ⟨b, off + j, none⟩) hbw).trans (hcell j h)
          have FC := hid (fun q : Nat => (first_any b off c xs k (wr.drewN q) hlt hm hcr))
          have hcx := hcr k hlt
          have hsx := hs _ (List.getElem_mem hlt)
          have hbg := hbig k hlt h1
          have hfl := firstOf_le xs k hlt
          have HR : Hid (rst xs (k + 1) = rstep xs k xs[k] (rst xs k)) := by
            have e : xs.getD k ByteArray.empty = xs[k] := by simp [hlt]
            simp only [Hid]; rw [rst, e]
          have htl := rst_tab_le xs k h1
          have htp := rst_tab_pos xs k
          have hpl : (rst xs k).2.length ≤ k := by rw [rst_places]; omega
          have hpl' : k ≤ (rst xs k).2.length := by rw [rst_places]; omega
          have H1 := hid h1
          have HCW := hid (hcell k hlt)
          clear hcell hcell0 hcr hs hbig h1 hrow
          obtain ⟨n, hn⟩ : ∃ n, n = xs[k] := ⟨_, rfl⟩
          rw [← hn] at hcx hsx hbg hfl HR FC HCW
          clear hn
          have hsz5 := h5.size
          obtain ⟨f, hf⟩ : ∃ f, f = firstOf xs n := ⟨_, rfl⟩
          rw [← hf] at hfl FC
          have HF := hid hf
          clear hf
          by_cases hne : n = ByteArray.empty
          · have HS : Hid (rst xs (k + 1) = ((rst xs k).1, (rst xs k).2 ++ [0])) := by
              simp only [Hid]; rw [HR.out]; simp [rstep, hne]
            subst hne
            have HL : Hid (rlong xs (k + 1) = false) := by
              simp only [Hid]; rw [rlong_succ, H1.out, HS.out]; simp; omega
            obtain ⟨tp, tc, rfl⟩ : ∃ tp tc, u6 = .slice tp (rst xs k).1.length tc := by
              obtain ⟨tp, tc, e, _⟩ := own_row h2
              exact ⟨tp, tc, e⟩
            go_wp2_with (first
              | (go_at_call 27; refine (FC.out 0).mono ?_; rintro e w' ⟨rfl, q, rfl⟩; have h21 := own_drewN h2 q; have h31 := own_drewN h3 q; have h51 := below_drewN h5 q)
              | ((with_reducible show wpList _ _ _ (⟨some 52, _, _, _, _, _⟩ :: _) _ _); go_loud (refine wpList_app E26 rfl _ _ rfl w.heap.size _ _ _ rfl (h31.alloc _) _ 1 1 [.int .i64 (0)] rfl rfl (by simp) (row_new _ _ _) (by simp [Value.oneCell']) (by unfold maxLen; omega) (by omega) (by simp; omega) ?_); intro v4 w4 ho4 hg4 hs4))
            go_roundw
            case rel =>
              refine ⟨k + 1, by omega, by go_num, ⟨HL.out, ?_, ?_, ?_, ?_⟩⟩
              · rw [HS.out]; exact own_kept (h21.alloc _) hg4 h4
              · rw [HS.out]; simpa [i64s] using ho4
              · exact (h4.symm.stayed hs4 (own_lt (h21.alloc _))).symm
              · exact (h51.alloc (by simpa using hsz5) _).grown hg4 (by simp; omega) (own_ge h31)
            case measure => simp [intOf]; omega
          · have hnt : n.toList.isEmpty = false := by
              rw [ByteArray.toList_eq]
              cases hl : n.data.toList with
              | nil => exact absurd (by cases n; simp at hl; simp [hl]; rfl) hne
              | cons => rfl
            by_cases hfk : f < k
            · have HS : Hid (rst xs (k + 1) = ((rst xs k).1, (rst xs k).2 ++ [(rst xs k).2.getD f 0])) := by
                simp only [Hid]; rw [HR.out, rstep, if_neg hne, ← HF.out, if_pos hfk]
              have HL : Hid (rlong xs (k + 1) = false) := by
                simp only [Hid]; rw [rlong_succ, H1.out, HS.out]; simp; omega
              obtain ⟨tp, tc, rfl⟩ : ∃ tp tc, u6 = .slice tp (rst xs k).1.length tc := by
                obtain ⟨tp, tc, e, _⟩ := own_row h2
                exact ⟨tp, tc, e⟩
              obtain ⟨pp, pc, e7, _, _, hpr, _⟩ := own_row h3
              obtain ⟨pb, po, rfl, hpc⟩ := hpr (by intro e; have := congrArg List.length e; simp at this; rw [this] at hpl'; simp at hpl'; omega)
              subst e7
              have hpf := hpc f (by simp; omega)
              simp only [List.getElem_map] at hpf
              obtain ⟨v, hv⟩ : ∃ v, v = (rst xs k).2[f]'(by omega) := ⟨_, rfl⟩
              rw [← hv] at hpf
              have HV : Hid ((rst xs k).2.getD f 0 = v) := by simp only [Hid]; rw [hv]; simp [List.getD, show f < (rst xs k).2.length by omega]
              clear hv hpc hpr hne
              go_wp2_with (first
                | (go_at_call 27; refine (FC.out 0).mono ?_; rintro e w' ⟨rfl, q, rfl⟩; have h21 := own_drewN h2 q; have h31 := own_drewN h3 q; have h51 := below_drewN h5 q)
                | ((with_reducible show wpList _ _ _ (⟨some 63, _, _, _, _, _⟩ :: _) _ _); go_loud (refine wpList_app E26 rfl _ _ rfl w.heap.size _ _ _ rfl (h31.alloc _) _ 1 1 [.int .i64 (v)] rfl rfl (by simp) (row_new _ _ _) (by simp [Value.oneCell']) (by unfold maxLen; omega) (by omega) (by simp; omega) ?_); intro v4 w4 ho4 hg4 hs4))
              go_roundw
              case rel =>
                refine ⟨k + 1, by omega, by go_num, ⟨HL.out, ?_, ?_, ?_, ?_⟩⟩
                · rw [HS.out]; exact own_kept (h21.alloc _) hg4 h4
                · rw [HS.out, HV.out]; simpa [i64s] using ho4
                · exact (h4.symm.stayed hs4 (own_lt (h21.alloc _))).symm
                · exact (h51.alloc (by simpa using hsz5) _).grown hg4 (by simp; omega) (own_ge h31)
              case measure => simp [intOf]; omega
            · have HS : Hid (rst xs (k + 1) = ((rst xs k).1 ++ n.data.toList ++ [0], (rst xs k).2 ++ [((rst xs k).1.length : Int)])) := by
                simp only [Hid]; rw [HR.out, rstep, if_neg hne, ← HF.out, if_neg hfk]
              obtain ⟨tp, tc, rfl⟩ : ∃ tp tc, u6 = .slice tp (rst xs k).1.length tc := by
                obtain ⟨tp, tc, e, _⟩ := own_row h2
                exact ⟨tp, tc, e⟩
              clear hne
              have hlen : ((rst xs k).1 ++ n.data.toList ++ [0]).length = (rst xs k).1.length + n.size + 1 := by
                have e : n.data.toList.length = n.size := by rw [Array.length_toList]; rfl
                simp [e]; omega
              have HLEN := hid hlen
              clear hlen
              have hlenr : (rst xs (k + 1)).1.length = (rst xs k).1.length + n.size + 1 := by rw [HS.out]; exact HLEN.out
              have HLENR := hid hlenr
              clear hlenr
              obtain ⟨m, hmd⟩ : ∃ m, m = (rst xs k).1.length + n.size + 1 := ⟨_, rfl⟩
              have hmd1 : (rst xs k).1.length < m := by omega
              have HMD := hid hmd
              rw [← hmd] at HLENR
              clear hmd
              by_cases hlong : 1048576 < m
              · have HB : Hid (buildR xs = ([], [], 3)) := by
                  have : rlong xs xs.length = true := List.any_eq_true.2 ⟨k, by simp; omega, by rw [HLENR.out]; simpa using hlong⟩
                  simp [Hid, buildR, HA.out, this]
                go_wp2_with (first
                  | (go_at_call 27; refine (FC.out 0).mono ?_; rintro e w' ⟨rfl, q, rfl⟩; have h21 := own_drewN h2 q; have h31 := own_drewN h3 q; have h51 := below_drewN h5 q)
                  | ((with_reducible show wpList _ _ _ (⟨some 35, _, _, _, _, _⟩ :: _) _ _); go_loud (refine wpList_app E26 rfl _ _ rfl w.heap.size _ _ _ rfl (h31.alloc _) _ 1 1 [.int .i64 ((rst xs k).1.length)] rfl rfl (by simp) (row_new _ _ _) (by simp [Value.oneCell']) (by unfold maxLen; omega) (by omega) (by simp; omega) ?_); intro v4 w4 ho4 hg4 hs4; have h22 := own_kept (h21.alloc _) hg4 h4; have h52 := (h51.alloc (by simpa using hsz5) _).grown hg4 (by simp; omega) (own_ge h31); have hsz52 := h52.size; have hcx2 := (h52.cell (p := ⟨b, off + k, none⟩) hbw).trans HCW.out)
                  | ((with_reducible show wpList _ _ _ (⟨some 41, _, _, _, _, _⟩ :: _) _ _); go_loud (refine wpList_app_string E25 Try.underlying9 rfl _ _ rfl w.heap.size _ _ _ rfl h22 n rfl (by unfold maxLen; omega) (by omega) (by omega) ?_); intro v5 w5 ho5 hg5 hs5; have h53 := h52.grown hg5 (by omega) (own_ge h22); have hsz53 := h53.size)
                  | ((with_reducible show wpList _ _ _ (⟨some 43, _, _, _, _, _⟩ :: _) _ _); go_loud (refine wpList_app E25 rfl _ _ rfl w.heap.size _ _ _ rfl (ho5.alloc _) _ 1 1 [.int .u8 0] rfl rfl (by simp) (row_new _ _ _) (by simp [Value.oneCell']) (by unfold maxLen; omega) (by omega) (by simp; omega) ?_); intro v6 w6 ho6 hg6 hs6; have h54 := (h53.alloc (by omega) _).grown hg6 (by simp; omega) (own_ge ho5); rw [← HMD.out] at ho6; obtain ⟨tp6, tc6, rfl, hf6⟩ := own_shape ho6; clear hf6))
                go_ret3
                rw [HB.out]
                exact ⟨.slice none 0 0, .slice none 0 0, rfl, World.ownsRow_nil _ _ _ _, World.ownsRow_nil _ _ _ _, h54⟩
              · have HL : Hid (rlong xs (k + 1) = false) := by
                  simp only [Hid]; rw [rlong_succ, H1.out, HLENR.out]; simpa using hlong
                go_wp2_with (first
                  | (go_at_call 27; refine (FC.out 0).mono ?_; rintro e w' ⟨rfl, q, rfl⟩; have h21 := own_drewN h2 q; have h31 := own_drewN h3 q; have h51 := below_drewN h5 q)
                  | ((with_reducible show wpList _ _ _ (⟨some 35, _, _, _, _, _⟩ :: _) _ _); go_loud (refine wpList_app E26 rfl _ _ rfl w.heap.size _ _ _ rfl (h31.alloc _) _ 1 1 [.int .i64 ((rst xs k).1.length)] rfl rfl (by simp) (row_new _ _ _) (by simp [Value.oneCell']) (by unfold maxLen; omega) (by omega) (by simp; omega) ?_); intro v4 w4 ho4 hg4 hs4; have h22 := own_kept (h21.alloc _) hg4 h4; have h52 := (h51.alloc (by simpa using hsz5) _).grown hg4 (by simp; omega) (own_ge h31); have hsz52 := h52.size; have hcx2 := (h52.cell (p := ⟨b, off + k, none⟩) hbw).trans HCW.out)
                  | ((with_reducible show wpList _ _ _ (⟨some 41, _, _, _, _, _⟩ :: _) _ _); go_loud (refine wpList_app_string E25 Try.underlying9 rfl _ _ rfl w.heap.size _ _ _ rfl h22 n rfl (by unfold maxLen; omega) (by omega) (by omega) ?_); intro v5 w5 ho5 hg5 hs5; have h53 := h52.grown hg5 (by omega) (own_ge h22); have hsz53 := h53.size)
                  | ((with_reducible show wpList _ _ _ (⟨some 43, _, _, _, _, _⟩ :: _) _ _); go_loud (refine wpList_app E25 rfl _ _ rfl w.heap.size _ _ _ rfl (ho5.alloc _) _ 1 1 [.int .u8 0] rfl rfl (by simp) (row_new _ _ _) (by simp [Value.oneCell']) (by unfold maxLen; omega) (by omega) (by simp; omega) ?_); intro v6 w6 ho6 hg6 hs6; have h54 := (h53.alloc (by omega) _).grown hg6 (by simp; omega) (own_ge ho5); rw [← HMD.out] at ho6; obtain ⟨tp6, tc6, rfl, hf6⟩ := own_shape ho6; clear hf6))
                go_roundw
                case rel =>
                  have a1 := (h4.symm.stayed hs4 (own_lt (h21.alloc _))).symm
                  have a2 := a1.stayed hs5 (own_lt ho4)
                  have o4 := (own_kept ho4 hg5 a1.symm).alloc (.cells #[.int .u8 0] 5)
                  have o5 := own_kept o4 hg6 a2.symm
                  refine ⟨k + 1, by omega, by go_num, ⟨HL.out, ?_, ?_, ?_, ?_⟩⟩
                  · rw [HS.out]
                    have e : ((rst xs k).1 ++ n.data.toList ++ [0]).length = m := by rw [HLEN.out, HMD.out]
                    rw [e]
                    simpa [u8s, Lib.strCells] using ho6
                  · rw [HS.out]; simpa [i64s] using o5
                  · exact a2.stayed hs6 (own_lt o4)
                  · exact h54
                case measure => simp [intOf]; omega
        · have hkl : k = xs.length := by omega
          subst hkl
          obtain ⟨h1, h2, h3, h4, h5⟩ := inv
          have HB : Hid (buildR xs = ((rst xs xs.length).1, (rst xs xs.length).2, 0)) := by simp [Hid, buildR, HA.out, h1]
          clear h1 h4 hbig
          go_wp2
          go_ret3
          rw [HB.out]
          exact ⟨u6, u7, rfl, h2, h3, h5⟩
end Go.Proofs.Ytaophcndkhnbeaa
