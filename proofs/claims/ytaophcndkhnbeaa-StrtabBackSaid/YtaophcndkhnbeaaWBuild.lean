/-
  The walk of strtab.Build: it reckons 'buildP'.
-/
import Derived.Test.YtaophcndkhnbeaaK
namespace Go.Proofs.Ytaophcndkhnbeaa
open Go.RowKit

theorem idx0_yes (s : ByteArray) (w : World) (h : hasZero s = true) : Calls Try.prog 25 #[.string s, .int .u8 0] w fun e w' => ∃ r : Int, 0 ≤ r ∧ e = .returned (.int .i64 r) ∧ w = w' := by
  refine (Try.strings_IndexByte s 0 w).mono fun e w' ⟨he, hw⟩ => ⟨_, ?_, he, hw.symm⟩
  have := Lib.contains_iff_indexByte s.data.toList 0
  unfold hasZero at h
  rw [h] at this
  exact of_decide_eq_true this.symm
theorem idx0_no (s : ByteArray) (w : World) (h : hasZero s = false) : Calls Try.prog 25 #[.string s, .int .u8 0] w fun e w' => ∃ r : Int, r < 0 ∧ e = .returned (.int .i64 r) ∧ w = w' := by
  refine (Try.strings_IndexByte s 0 w).mono fun e w' ⟨he, hw⟩ => ⟨_, ?_, he, hw.symm⟩
  have := Lib.contains_iff_indexByte s.data.toList 0
  unfold hasZero at h
  rw [h] at this
  have h2 := of_decide_eq_false this.symm
  have e0 : (0 : Int).toNat.toUInt8 = 0 := rfl
  rw [e0]
  omega

/-- What the loop of Build keeps. -/
structure BInv (W : World) (xs : List ByteArray) (k : Nat) (tv pv lg : Value) (wr : World) : Prop where
  lg : lg = .bool (bst (xs.take k)).long
  zero : (xs.take k).any hasZero = false
  tab : wr.ownsRow W.heap.size 5 1 tv (bst (xs.take k)).tab.length (u8s (bst (xs.take k)).tab)
  places : wr.ownsRow W.heap.size 3 1 pv (bst (xs.take k)).places.length (i64s (bst (xs.take k)).places)
  map : MapIs Value.string (Value.int .i64) wr (W.heap.size + 1) (bst (xs.take k)).at_
  apart : Apart tv pv
  tm : tv.ownBlock ≠ some (W.heap.size + 1)
  pm : pv.ownBlock ≠ some (W.heap.size + 1)
  below : Below W.heap.size W wr

set_option maxHeartbeats 1000000 in
theorem build_any (p : Option Addr) (c : Nat) (xs : List ByteArray) (w : World) (hm : xs.length ≤ 1000000) (hs : ∀ s ∈ xs, s.size ≤ 9223372036854775807)
    (hrow : Row w p (xs.map Value.string)) :
    Calls Try.prog 10 #[.slice p xs.length c] w fun e w' => ∃ tv pv, e = .returned (.tuple #[tv, pv, .int .i64 (buildP xs).2.2]) ∧
      w'.ownsRow w.heap.size 5 1 tv (buildP xs).1.length (u8s (buildP xs).1) ∧ w'.ownsRow w.heap.size 3 1 pv (buildP xs).2.1.length (i64s (buildP xs).2.1) ∧ Below w.heap.size w w' := by
  have hmm := @run_makeMap Try.prog
  have hmk := MapIs.made Value.string (Value.int .i64) (w.alloc (.cells #[.int .u8 0] 5))
  rw [World.size_alloc] at hmk
  have hb0 : Below w.heap.size w ((w.alloc (.cells #[.int .u8 0] 5)).alloc (.map #[] 0)) := ((Below.refl _ w).alloc (Nat.le_refl _) _).alloc (by simp) _
  have ho0 := (own_new w [.int .u8 0] 5 w.heap.size 1 1 (Nat.le_refl _) rfl (by decide)).alloc (.map #[] 0)
  go_enter Try.func10, Try.ntmps10
  go_wp2_with ((with_reducible show wpList _ _ _ (⟨none, .insert 47 _ _ _, _, _, _, _⟩ :: _) _ _); refine wpList_mapset K9 Try.underlying47 rfl _ _ _ (.inr rfl) _ [] rfl hmk ByteArray.empty rfl 0 rfl ?_; intro w1 hm1 hg1)
  have inv0 : BInv w xs 0 (.slice (some ⟨w.heap.size, 0, none⟩) 1 1) (.slice none 0 0) (.bool false) w1 :=
    ⟨rfl, rfl, ho0.kept hg1 (.inr (by simp [Value.ownBlock])), World.ownsRow_nil _ _ _ _, hm1, (Apart.nil _).symm, by simp [Value.ownBlock], by simp [Value.ownBlock], hb0.grown hg1 (by simp; omega) (by simp)⟩
  clear hm1 hg1 ho0 hb0 hmk hmm
  go_loopw [5, 7, 8, 18] (fun tv pv lg i wr => ∃ k : Nat, k ≤ xs.length ∧ i = .int .i64 k ∧ BInv w xs k tv pv lg wr) (fun _ _ _ i _ => xs.length - (intOf i).toNat)
  case atStart => exact ⟨0, Nat.zero_le _, rfl, inv0⟩
  case round =>
    clear inv0
    obtain ⟨k, hk, rfl, inv⟩ := hrel
    by_cases hlt : k < xs.length
    · obtain ⟨b, off, rfl, hbw, hcell⟩ := hrow.at (by simp; omega)
      have hcx := hcell k (by simp; omega)
      simp only [List.getElem_map] at hcx
      have hsx := hs _ (List.getElem_mem hlt)
      have HT := hid (take_succ xs k hlt)
      clear hcell hs
      obtain ⟨n, hn⟩ : ∃ n, n = xs[k] := ⟨_, rfl⟩
      rw [← hn] at hcx hsx HT
      clear hn
      obtain ⟨h1, h2, h3, h4, h5, h6, h7, h8, h9⟩ := inv
      have hcx : wr.cell? ⟨b, off + k, none⟩ = some (.string n) := (h9.cell (p := ⟨b, off + k, none⟩) hbw).trans hcx
      obtain rfl := h1
      have H2 := hid h2
      have htl := bst_tab_le (xs.take k)
      have hpl := bst_places (xs.take k)
      have hpl2 : (bst (xs.take k)).places.length ≤ 1000000 := by rw [hpl]; simp; omega
      clear h2 hpl
      have hsz9 := h9.size
      cases hz : hasZero n
      · cases hlk : alook (bst (xs.take k)).at_ n with
        | some v =>
          have HS : Hid (bst (xs.take (k + 1)) = { bst (xs.take k) with places := (bst (xs.take k)).places ++ [v] }) := by
            simp only [Hid]; rw [HT.out, bst_snoc]; simp [bstep, hlk]
          have HZ : Hid ((xs.take (k + 1)).any hasZero = false) := by
            simp only [Hid]; rw [HT.out, List.any_append, H2.out]; simp [hz]
          go_wp2_with (first
            | (go_at_call 25; refine (idx0_no _ _ (by assumption)).mono ?_; rintro e w' ⟨r, hr, rfl, rfl⟩)
            | ((with_reducible show wpList _ _ _ (⟨some 28, _, _, _, _, _⟩ :: _) _ _); go_loud (refine wpList_maplook K9 Try.underlying47 rfl _ _ true rfl (.int .i64 0) (zero3 _) _ _ rfl h5 n rfl ?_); simp only [hlk, Option.map_some, Option.getD_some, Option.isSome_some, if_true])
            | ((with_reducible show wpList _ _ _ (⟨some 56, _, _, _, _, _⟩ :: _) _ _); go_loud (refine wpList_maplook K9 Try.underlying47 rfl _ _ false rfl (.int .i64 0) (zero3 _) _ _ rfl h5 n rfl ?_); simp only [hlk, Option.map_some, Option.getD_some, Bool.false_eq_true, if_false])
            | ((with_reducible show wpList _ _ _ (⟨some 58, _, _, _, _, _⟩ :: _) _ _); go_loud (refine wpList_app E26 rfl _ _ rfl w.heap.size _ _ _ rfl (h4.alloc _) _ 1 1 [.int .i64 v] rfl rfl (by simp) (row_new _ _ _) (by simp [Value.oneCell']) (by unfold maxLen; omega) (by omega) (by simp; omega) ?_); intro v2 w2 ho2 hg2 hs2))
          go_roundw
          case rel =>
            refine ⟨k + 1, by omega, by go_num, ⟨by rw [HS.out], HZ.out, ?_, ?_, ?_, ?_, h7, ?_, ?_⟩⟩
            · rw [HS.out]; exact own_kept (h3.alloc _) hg2 h6
            · rw [HS.out]; simpa [i64s] using ho2
            · rw [HS.out]; exact (h5.alloc _).kept hg2 (fun e => h8 e.symm)
            · exact (h6.symm.stayed hs2 (own_lt (h3.alloc _))).symm
            · intro e
              rcases hs2 _ e with h | h
              · exact h8 h
              · have := h5.lt; simp at h; omega
            · exact (h9.alloc (by omega) _).grown hg2 (by simp; omega) (own_ge h4)
          case measure => simp [intOf]; omega
        | none =>
          have HZ : Hid ((xs.take (k + 1)).any hasZero = false) := by
            simp only [Hid]; rw [HT.out, List.any_append, H2.out]; simp [hz]
          have HS : Hid (bst (xs.take (k + 1)) = bstep (bst (xs.take k)) n) := by
            simp only [Hid]; rw [HT.out, bst_snoc]
          obtain ⟨tp, tc, rfl, htc⟩ : ∃ tp tc, u5 = .slice tp (bst (xs.take k)).tab.length tc ∧ True := by
            obtain ⟨tp, tc, e, _⟩ := own_row h3
            exact ⟨tp, tc, e, trivial⟩
          clear htc
          cases hlg : (bst (xs.take k)).long
          · by_cases hbig : 1048576 - ((bst (xs.take k)).tab.length : Int) ≤ n.size
            · have hbd : decide (1048576 - ((bst (xs.take k)).tab.length : Int) ≤ n.size) = true := by simpa using hbig
              have HS2 : Hid (bst (xs.take (k + 1)) = ⟨(bst (xs.take k)).tab, aset (bst (xs.take k)).at_ n (bst (xs.take k)).tab.length, (bst (xs.take k)).places ++ [((bst (xs.take k)).tab.length : Int)], true⟩) := by
                simp only [Hid]; rw [HS.out]; simp [bstep, hlk, hlg, hbd]
              clear HS
              have hlk2 : ∀ (u : Int), alook (aset (bst (xs.take k)).at_ n u) n = some u := fun u => by rw [alook_aset, if_pos rfl]
              go_wp2_with (first
                | (go_at_call 25; refine (idx0_no _ _ (by assumption)).mono ?_; rintro e w' ⟨r, hr, rfl, rfl⟩)
                | ((with_reducible show wpList _ _ _ (⟨some 28, _, _, _, _, _⟩ :: _) _ _); go_loud (refine wpList_maplook K9 Try.underlying47 rfl _ _ true rfl (.int .i64 0) (zero3 _) _ _ rfl h5 n rfl ?_); simp only [hlk, Option.map_none, Option.getD_none, Option.isSome_none, if_true])
                | ((with_reducible show wpList _ _ _ (⟨none, .mapUpdate _ _ _ _, _, _, _, _⟩ :: _) _ _); go_loud (refine wpList_mapset K9 Try.underlying47 rfl _ _ _ (.inl rfl) _ _ rfl h5 n rfl (bst (xs.take k)).tab.length rfl ?_); intro w1 hm1 hg1; have h31 := h3.kept hg1 (.inr h7); have h41 := h4.kept hg1 (.inr h8); have h91 := h9.grown hg1 hsz9 (by simp); have hsz91 := h91.size)
                | ((with_reducible show wpList _ _ _ (⟨some 56, _, _, _, _, _⟩ :: _) _ _); go_loud (refine wpList_maplook K9 Try.underlying47 rfl _ _ false rfl (.int .i64 0) (zero3 _) _ _ rfl hm1 n rfl ?_); simp only [hlk2, Option.map_some, Option.getD_some, Bool.false_eq_true, if_false])
                | ((with_reducible show wpList _ _ _ (⟨some 58, _, _, _, _, _⟩ :: _) _ _); go_loud (refine wpList_app E26 rfl _ _ rfl w.heap.size _ _ _ rfl (h41.alloc _) _ 1 1 [.int .i64 (bst (xs.take k)).tab.length] rfl rfl (by simp) (row_new _ _ _) (by simp [Value.oneCell']) (by unfold maxLen; omega) (by omega) (by simp; omega) ?_); intro v4 w4 ho4 hg4 hs4))
              go_roundw
              case rel =>
                refine ⟨k + 1, by omega, by go_num, ⟨by rw [HS2.out], HZ.out, ?_, ?_, ?_, ?_, h7, ?_, ?_⟩⟩
                · rw [HS2.out]; exact own_kept (h31.alloc _) hg4 h6
                · rw [HS2.out]; simpa [i64s] using ho4
                · rw [HS2.out]; exact (hm1.alloc _).kept hg4 (fun e => h8 e.symm)
                · exact (h6.symm.stayed hs4 (own_lt (h31.alloc _))).symm
                · exact ne_stayed hs4 h8 (by have := hm1.lt; simp; omega)
                · exact (h91.alloc (by omega) _).grown hg4 (by simp; omega) (own_ge h41)
              case measure => simp [intOf]; omega
            · have hbd : decide (1048576 - ((bst (xs.take k)).tab.length : Int) ≤ n.size) = false := by simpa using hbig
              have HS2 : Hid (bst (xs.take (k + 1)) = ⟨(bst (xs.take k)).tab ++ n.data.toList ++ [0], aset (bst (xs.take k)).at_ n (bst (xs.take k)).tab.length, (bst (xs.take k)).places ++ [((bst (xs.take k)).tab.length : Int)], false⟩) := by
                simp only [Hid]; rw [HS.out]; simp [bstep, hlk, hlg, hbd]
              clear HS
              have hlk2 : ∀ (u : Int), alook (aset (bst (xs.take k)).at_ n u) n = some u := fun u => by rw [alook_aset, if_pos rfl]
              go_wp2_with (first
                | (go_at_call 25; refine (idx0_no _ _ (by assumption)).mono ?_; rintro e w' ⟨r, hr, rfl, rfl⟩)
                | ((with_reducible show wpList _ _ _ (⟨some 28, _, _, _, _, _⟩ :: _) _ _); go_loud (refine wpList_maplook K9 Try.underlying47 rfl _ _ true rfl (.int .i64 0) (zero3 _) _ _ rfl h5 n rfl ?_); simp only [hlk, Option.map_none, Option.getD_none, Option.isSome_none, if_true])
                | ((with_reducible show wpList _ _ _ (⟨none, .mapUpdate _ _ _ _, _, _, _, _⟩ :: _) _ _); go_loud (refine wpList_mapset K9 Try.underlying47 rfl _ _ _ (.inl rfl) _ _ rfl h5 n rfl (bst (xs.take k)).tab.length rfl ?_); intro w1 hm1 hg1; have h31 := h3.kept hg1 (.inr h7); have h41 := h4.kept hg1 (.inr h8); have h91 := h9.grown hg1 hsz9 (by simp); have hsz91 := h91.size)
                | ((with_reducible show wpList _ _ _ (⟨some 50, _, _, _, _, _⟩ :: _) _ _); go_loud (refine wpList_app_string E25 Try.underlying9 rfl (.tmp 48) (.tmp 49) rfl w.heap.size (.slice tp (bst (xs.take k)).tab.length tc) _ _ rfl h31 n rfl (by unfold maxLen; omega) (by omega) (by omega) ?_); intro v2 w2 ho2 hg2 hs2; have h92 := h91.grown hg2 (by omega) (own_ge h31); have hsz92 := h92.size)
                | ((with_reducible show wpList _ _ _ (⟨some 52, _, _, _, _, _⟩ :: _) _ _); go_loud (refine wpList_app E25 rfl _ _ rfl w.heap.size _ _ _ rfl (ho2.alloc _) _ 1 1 [.int .u8 0] rfl rfl (by simp) (row_new _ _ _) (by simp [Value.oneCell']) (by unfold maxLen; omega) (by omega) (by simp; omega) ?_); intro v3 w3 ho3 hg3 hs3; have h93 := (h92.alloc (by omega) _).grown hg3 (by simp; omega) (own_ge ho2); have hsz93 := h93.size; go_loud (have h42 := own_kept h41 hg2 h6.symm); go_loud (have h43 := own_kept (h42.alloc _) hg3 (h6.stayed hs2 (own_lt h41)).symm); go_loud (have hm3 := ((hm1.kept hg2 (fun e => h7 e.symm)).alloc _).kept hg3 (fun e => ne_stayed hs2 h7 hm1.lt e.symm)))
                | ((with_reducible show wpList _ _ _ (⟨some 56, _, _, _, _, _⟩ :: _) _ _); go_loud (refine wpList_maplook K9 Try.underlying47 rfl _ _ false rfl (.int .i64 0) (zero3 _) _ _ rfl hm3 n rfl ?_); simp only [hlk2, Option.map_some, Option.getD_some, Bool.false_eq_true, if_false])
                | ((with_reducible show wpList _ _ _ (⟨some 58, _, _, _, _, _⟩ :: _) _ _); go_loud (refine wpList_app E26 rfl _ _ rfl w.heap.size _ _ _ rfl (h43.alloc _) _ 1 1 [.int .i64 (bst (xs.take k)).tab.length] rfl rfl (by simp) (row_new _ _ _) (by simp [Value.oneCell']) (by unfold maxLen; omega) (by omega) (by simp; omega) ?_); intro v4 w4 ho4 hg4 hs4)
                )
              go_roundw
              case rel =>
                have a37 : Apart v3 u7 := by
                  have a27 : Apart v2 u7 := h6.stayed hs2 (own_lt h41)
                  exact a27.stayed hs3 (fun g hg => by have := own_lt h42 g hg; simp; omega)
                refine ⟨k + 1, by omega, by go_num, ⟨by rw [HS2.out], HZ.out, ?_, ?_, ?_, ?_, ?_, ?_, ?_⟩⟩
                · rw [HS2.out]
                  have := own_kept (ho3.alloc _) hg4 a37
                  simp only [u8s, List.map_append, List.length_append, List.length_cons, List.length_nil, Array.length_toList] at this ⊢
                  exact this
                · rw [HS2.out]; simpa [i64s] using ho4
                · rw [HS2.out]; exact (hm3.alloc _).kept hg4 (fun e => h8 e.symm)
                · exact (a37.symm.stayed hs4 (own_lt (ho3.alloc _))).symm
                · exact ne_stayed hs3 (ne_stayed hs2 h7 hm1.lt) (by have := hm1.lt; have := hg2.size; simp; omega)
                · exact ne_stayed hs4 h8 (by have := hm3.lt; simp; omega)
                · exact (h93.alloc (by omega) _).grown hg4 (by simp; omega) (own_ge h43)
              case measure => simp [intOf]; omega
          · have HS2 : Hid (bst (xs.take (k + 1)) = ⟨(bst (xs.take k)).tab, aset (bst (xs.take k)).at_ n (bst (xs.take k)).tab.length, (bst (xs.take k)).places ++ [((bst (xs.take k)).tab.length : Int)], true⟩) := by
              simp only [Hid]; rw [HS.out]; simp [bstep, hlk, hlg]
            clear HS
            have hlk2 : ∀ (u : Int), alook (aset (bst (xs.take k)).at_ n u) n = some u := fun u => by rw [alook_aset, if_pos rfl]
            go_wp2_with (first
              | (go_at_call 25; refine (idx0_no _ _ (by assumption)).mono ?_; rintro e w' ⟨r, hr, rfl, rfl⟩)
              | ((with_reducible show wpList _ _ _ (⟨some 28, _, _, _, _, _⟩ :: _) _ _); go_loud (refine wpList_maplook K9 Try.underlying47 rfl _ _ true rfl (.int .i64 0) (zero3 _) _ _ rfl h5 n rfl ?_); simp only [hlk, Option.map_none, Option.getD_none, Option.isSome_none, if_true])
              | ((with_reducible show wpList _ _ _ (⟨none, .mapUpdate _ _ _ _, _, _, _, _⟩ :: _) _ _); go_loud (refine wpList_mapset K9 Try.underlying47 rfl _ _ _ (.inl rfl) _ _ rfl h5 n rfl (bst (xs.take k)).tab.length rfl ?_); intro w1 hm1 hg1; have h31 := h3.kept hg1 (.inr h7); have h41 := h4.kept hg1 (.inr h8); have h91 := h9.grown hg1 hsz9 (by simp); have hsz91 := h91.size)
              | ((with_reducible show wpList _ _ _ (⟨some 56, _, _, _, _, _⟩ :: _) _ _); go_loud (refine wpList_maplook K9 Try.underlying47 rfl _ _ false rfl (.int .i64 0) (zero3 _) _ _ rfl hm1 n rfl ?_); simp only [hlk2, Option.map_some, Option.getD_some, Bool.false_eq_true, if_false])
              | ((with_reducible show wpList _ _ _ (⟨some 58, _, _, _, _, _⟩ :: _) _ _); go_loud (refine wpList_app E26 rfl _ _ rfl w.heap.size _ _ _ rfl (h41.alloc _) _ 1 1 [.int .i64 (bst (xs.take k)).tab.length] rfl rfl (by simp) (row_new _ _ _) (by simp [Value.oneCell']) (by unfold maxLen; omega) (by omega) (by simp; omega) ?_); intro v4 w4 ho4 hg4 hs4))
            go_roundw
            case rel =>
              refine ⟨k + 1, by omega, by go_num, ⟨by rw [HS2.out], HZ.out, ?_, ?_, ?_, ?_, h7, ?_, ?_⟩⟩
              · rw [HS2.out]; exact own_kept (h31.alloc _) hg4 h6
              · rw [HS2.out]; simpa [i64s] using ho4
              · rw [HS2.out]; exact (hm1.alloc _).kept hg4 (fun e => h8 e.symm)
              · exact (h6.symm.stayed hs4 (own_lt (h31.alloc _))).symm
              · exact ne_stayed hs4 h8 (by have := hm1.lt; simp; omega)
              · exact (h91.alloc (by omega) _).grown hg4 (by simp; omega) (own_ge h41)
            case measure => simp [intOf]; omega
      · have hB : buildP xs = ([], [], 6) := by
          have : xs.any hasZero = true := List.any_eq_true.2 ⟨n, by
            have : n ∈ xs.take (k + 1) := by rw [HT.out]; simp
            exact List.mem_of_mem_take this, hz⟩
          simp [buildP, this]
        have HB := hid hB
        clear hB
        go_wp2_with (go_at_call 25; refine (idx0_yes _ _ (by assumption)).mono ?_; rintro e w' ⟨r, hr, rfl, rfl⟩)
        go_ret3
        rw [HB.out]
        exact ⟨.slice none 0 0, .slice none 0 0, rfl, World.ownsRow_nil _ _ _ _, World.ownsRow_nil _ _ _ _, h9⟩
    · have hkl : k = xs.length := by omega
      subst hkl
      obtain ⟨h1, h2, h3, h4, h5, h6, h7, h8, h9⟩ := inv
      rw [List.take_length] at h1 h2 h3 h4 h5
      clear h5 h6 h7 h8 hrow hs
      obtain rfl := h1
      cases hl : (bst xs).long
      · have HB : Hid (buildP xs = ((bst xs).tab, (bst xs).places, 0)) := by simp [Hid, buildP, h2, hl]
        clear h2
        go_wp2
        go_ret3
        rw [HB.out]
        exact ⟨u5, u7, rfl, h3, h4, h9⟩
      · have HB : Hid (buildP xs = ([], [], 3)) := by simp [Hid, buildP, h2, hl]
        clear h2
        go_wp2
        go_ret3
        rw [HB.out]
        exact ⟨.slice none 0 0, .slice none 0 0, rfl, World.ownsRow_nil _ _ _ _, World.ownsRow_nil _ _ _ _, h9⟩
end Go.Proofs.Ytaophcndkhnbeaa
