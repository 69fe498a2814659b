/-
  The walks of LinearNames, LinearWrong.
-/
import Derived.Test.YtdkknnmgdghioaaJF11
namespace Go.Proofs.Ytdkknnmgdghioaa
open Go.RowKit

noncomputable def allN (l : List Cl) (j : Nat) : Bool := (List.range j).all (fun i => linB (ofN l ((keysF l).getD i .empty)))
theorem allN_succ (l : List Cl) (j : Nat) : allN l (j + 1) = (allN l j && linB (ofN l ((keysF l).getD j .empty))) := by unfold allN; rw [List.range_succ, List.all_append]; simp
theorem allN_lin {l : List Cl} (hz : chkL l = 0) (hm : ∀ i, i < l.length → (cAt l i).to ≤ maxI) : allN l (keysF l).length = linB l := by
  rw [Bool.eq_iff_iff, linB_iff, lin_names (chk_ok hz).2.at hm]
  unfold allN
  rw [List.all_eq_true]
  constructor
  · intro h i hi
    obtain ⟨j, hj, hjk⟩ := List.getElem_of_mem (keysF_mem.2 ⟨_, cAt_mem i hi, rfl⟩ : (cAt l i).key ∈ keysF l)
    have := linB_iff.1 (h j (List.mem_range.2 hj))
    rwa [List.getD_eq_getElem?_getD, List.getElem?_eq_getElem hj, Option.getD_some, hjk] at this
  · intro h j hj
    have hj := List.mem_range.1 hj
    rw [linB_iff, List.getD_eq_getElem?_getD, List.getElem?_eq_getElem hj, Option.getD_some]
    obtain ⟨c, hc, hk⟩ := keysF_mem.1 (List.getElem_mem hj)
    obtain ⟨i, hi, rfl⟩ := mem_cAt hc
    rw [← hk]; exact h i hi
theorem chk_of {l : List Cl} (hz : chkL l = 0) (k : ByteArray) : chkL (ofN l k) = 0 := chk_is (Nat.le_trans (ofN_len l k) (chk_ok hz).1) ((chk_ok hz).2.of k)
theorem HsOk.of {w : World} {p : Option Addr} {c : Nat} {l : List Cl} {w' : World} {q : Option Addr} {d base : Nat} (h : HsOk w p c l) (k : ByteArray) (ho : OwnC w' base (.slice q (ofN l k).length d) (ofN l k)) : HsOk w' q d (ofN l k) := by
  obtain ⟨q', d', e1, hd, _, hr, _⟩ := own_row ho
  cases e1
  exact ⟨hd, own_nilcap ho, hr, fun x hx => h.each x (List.mem_filter.1 hx).1, Nat.le_trans (ofN_len l k) h.len⟩
set_option maxRecDepth 20000 in
set_option maxHeartbeats 4000000 in
theorem names_walk (w : World) (p : Option Addr) (c : Nat) (l : List Cl) (hok : l.length ≤ c ∧ c ≤ maxLen ∧ (p = none → c = 0) ∧ Row w p (l.flatMap Cl.cells) ∧ (∀ x ∈ l, x.ok) ∧ c * Try.prog.bytesOf 38 ≤ 140737488351232) :
    Calls Try.prog 5 #[.slice p l.length c] w fun e w' => e = .returned (.bool true) ∧ Below w.heap.size w w' := by
  have HH := hid (hsOk hok)
  clear hok
  go_enter Try.func5, Try.ntmps5
  go_wp2_with (go_at_call 8; (with_reducible refine (live_any _).mono ?_); rintro e w1 ⟨rfl, hb1⟩; have HB1 := hid hb1; clear hb1)
  (with_reducible refine (HH.out.below HB1.out).few.mono ?_)
  rintro e w2 ⟨b, rfl, hfew, hb2⟩
  have HB2 := hid (HB1.out.trans (hb2.mono HB1.out.size))
  clear hb2
  cases b with
  | false =>
    go_wp2
    go_ret
    exact ⟨rfl, HB2.out⟩
  | true =>
    have hl := hfew rfl
    clear hfew
    have HC := hid (fun (w1 : World) (hb : Below w.heap.size w w1) => rcheck_any l p c w1 (by omega) HH.out.cap (HH.out.row.below hb))
    unfold RChkTell at HC
    by_cases hz : chkL l = 0
    · rw [hz] at HC
      have HZ := hid hz
      clear hz
      go_wp2_with (go_at_call 11; (with_reducible refine (HC.out _ HB2.out).mono ?_); rintro e w3 ⟨rfl, hb3⟩; have HB3 := hid (below_tr hb3 HB2.out); clear hb3)
      have hfc : Calls Try.prog 10 #[.slice p l.length c] w3 fun e w' => ∃ (q : Option Addr) (n d : Nat), e = .returned (.tuple #[.slice q n d, .bool (linB l), .int .i64 0]) ∧ Below w3.heap.size w3 w' := by
        refine (find_case l p c w3 (by omega) (HH.out.below HB3.out)).mono ?_
        rintro e w' (⟨q, d, hz, rfl, hb3⟩ | ⟨q, d, hz, hn, rfl, hb3⟩ | ⟨q, d, o, hz, hn, hlg, hr, rfl, hb3⟩)
        · exact absurd HZ.out hz
        · exact ⟨q, _, d, by rw [hn], hb3⟩
        · exact ⟨q, _, d, by rw [hn], hb3⟩
      (with_reducible refine hfc.mono ?_)
      rintro e w4 ⟨q, n, d, rfl, hb4⟩
      have HB4 := hid (below_tr hb4 HB3.out)
      have HAL := hid (allN_lin HZ.out HH.out.max)
      have HK := hid (fun (w1 : World) (hb : Below w.heap.size w w1) => rkeys_any l p c w1 (by omega) (HH.out.row.below hb))
      clear hb4 hfc
      generalize linB l = LB at *
      go_wp2_with (go_at_call 15; (with_reducible refine (HK.out _ HB4.out).mono ?_); rintro e w5 ⟨v5, rfl, ho5, hb5⟩; have HO5 := hid ho5; have HB5 := hid (below_tr hb5 HB4.out); obtain ⟨p5, c5, rfl, -⟩ := own_shape ho5; clear ho5 hb5)
      have hz5 := HB5.out.size
      have hkl : (keysF l).length ≤ 1000000 := Nat.le_trans (keysF_len l) (by omega)
      go_loopw [6, 31] (fun a i wr => ∃ k : Nat, k ≤ (keysF l).length ∧ i = .int .i64 k ∧ a = .bool (allN l k) ∧ Below w5.heap.size w5 wr) (fun _ i _ => (keysF l).length - (intOf i).toNat)
      case atStart => exact ⟨0, Nat.zero_le _, rfl, rfl, Below.refl _ _⟩
      case round =>
        obtain ⟨i, hi, rfl, rfl, hb⟩ := hrel
        have HB := hid hb
        have HBW := hid (HB5.out.trans (hb.mono hz5))
        clear hb
        by_cases hlt : i < (keysF l).length
        · have hr5 := (own_slice_row HO5.out).below HB.out
          obtain ⟨b5, o5, rfl, hb5, -⟩ := hr5.at (by simpa using (show 0 < (keysF l).length by omega))
          have c0 := str_at hr5 i hlt
          have HT := hid (allN_succ l i)
          clear hr5
          generalize (keysF l).getD i .empty = key at c0 HT
          have HOF := hid (rof_any l p c key wr (by omega) (HH.out.row.below HBW.out))
          have hfo : Hid (∀ (w1 : World) (q : Option Addr) (d base : Nat), OwnC w1 base (.slice q (ofN l key).length d) (ofN l key) → Calls Try.prog 10 #[.slice q (ofN l key).length d] w1 fun e w' => ∃ (q : Option Addr) (n d : Nat), e = .returned (.tuple #[.slice q n d, .bool (linB (ofN l key)), .int .i64 0]) ∧ Below w1.heap.size w1 w') := fun w1 q d base ho => by
            refine (find_case (ofN l key) q d w1 (Nat.le_trans (ofN_len l key) (by omega)) (HH.out.of key ho)).mono ?_
            rintro e w' (⟨q, d, hz, rfl, hb3⟩ | ⟨q, d, hz, hn, rfl, hb3⟩ | ⟨q, d, o, hz, hn, hlg, hr, rfl, hb3⟩)
            · exact absurd (chk_of HZ.out key) hz
            · exact ⟨q, _, d, by rw [hn], hb3⟩
            · exact ⟨q, _, d, by rw [hn], hb3⟩
          go_wp2_with (go_at_call 16; (with_reducible refine HOF.out.mono ?_); rintro e w6 ⟨v6, rfl, ho6, hb6⟩; have HO6 := hid ho6; have HB6 := hid (HB.out.trans (hb6.mono HB.out.size)); obtain ⟨p6, c6, rfl, -⟩ := own_shape ho6; clear ho6 hb6)
          (with_reducible refine (hfo.out _ _ _ _ HO6.out).mono ?_)
          rintro e w7 ⟨q7, n7, d7, rfl, hb7⟩
          have HB7 := hid (HB6.out.trans (hb7.mono HB6.out.size))
          clear hb7
          generalize linB (ofN l key) = LK at *
          cases ha : allN l i with
          | false =>
            rw [ha, Bool.false_and] at HT
            clear ha
            go_wp2
            exact ⟨⟨i + 1, by omega, by go_num, by rw [HT.out], HB7.out⟩, by simp [intOf]; omega⟩
          | true =>
            rw [ha, Bool.true_and] at HT
            clear ha
            go_wp2
            exact ⟨⟨i + 1, by omega, by go_num, by rw [HT.out], HB7.out⟩, by simp [intOf]; omega⟩
        · have hie : i = (keysF l).length := by omega
          subst hie
          rw [HAL.out]
          have hll : (LB == LB) = true := by simp
          go_wp2
          go_ret
          exact ⟨ret_bool (by simp), HBW.out⟩
    · generalize chkL l = ch at *
      have h1 : (ch == 0) = false := by simpa using hz
      have h2 : (ch != 0) = true := by simpa using hz
      clear hz
      go_wp2_with (go_at_call 11; (with_reducible refine (HC.out _ HB2.out).mono ?_); rintro e w3 ⟨rfl, hb3⟩)
      go_ret
      exact ⟨rfl, below_tr hb3 HB2.out⟩
end Go.Proofs.Ytdkknnmgdghioaa
