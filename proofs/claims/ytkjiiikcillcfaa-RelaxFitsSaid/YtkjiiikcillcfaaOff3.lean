/-
  The walk of the document's Offsets.
-/
import Derived.Test.YtkjiiikcillcfaaOff2
namespace Go.Proofs.Ytkjiiikcillcfaa
open Go.RowKit

theorem up_rem (A p : Int) (hp : 1 ≤ p) : A + (p - A % p) % p = up A p := by
  unfold up
  have h1 := Int.emod_nonneg A (show p ≠ 0 by omega)
  have h2 := Int.emod_lt_of_pos A (show 0 < p by omega)
  have h3 := Int.emod_add_mul_ediv A p
  obtain ⟨r, hr⟩ : ∃ r, r = A % p := ⟨_, rfl⟩
  obtain ⟨q, hq⟩ : ∃ q, q = A / p := ⟨_, rfl⟩
  rw [← hr] at h1 h2 h3 ⊢
  rw [← hq] at h3
  by_cases h0 : r = 0
  · subst h0
    have e1 : (A + p - 1) = (p - 1) + p * q := by omega
    rw [e1, Int.add_mul_ediv_left _ _ (by omega), Int.ediv_eq_zero_of_lt (by omega) (by omega)]
    have e2 : (p - 0) % p = 0 := by simp
    rw [e2, Int.zero_add, Int.mul_comm]
    omega
  · have e1 : (A + p - 1) = (r - 1) + p * (q + 1) := by rw [Int.mul_add]; omega
    rw [e1, Int.add_mul_ediv_left _ _ (by omega), Int.ediv_eq_zero_of_lt (by omega) (by omega)]
    have e2 : (p - r) % p = p - r := Int.emod_eq_of_lt (by omega) (by omega)
    rw [e2, Int.zero_add, Int.mul_comm, Int.mul_add]
    omega

set_option maxHeartbeats 1000000 in
theorem refOffsets_any (p : Option Addr) (c : Nat) (xs : List It) (q : Option Addr) (d : Nat) (ls : List Bool) (w : World) (hm : xs.length ≤ 1000000)
    (hrow : Row w p (itCells xs)) (hrow2 : Row w q (bools ls)) :
    Calls Try.prog 17 #[.slice p xs.length c, .slice q ls.length d] w (OffPost xs ls w) := by
  by_cases hc : checkP xs = 0
  · obtain ⟨h1, hpl, h3⟩ := checkP_ok hc
    by_cases hl : ls.length = xs.length
    · have HE : Hid (offErr xs ls = 0) := by simp [Hid, offErr, hc, hl]
      have HR : Hid (offRes xs ls = offs xs ls) := by simp [Hid, offRes, HE.out]
      have HCK := hid hc
      have HL := hid hl
      have HPL := hid hpl
      clear hc hpl
      rw [hl]
      have hll : (((xs.length : Nat) : Int) != (xs.length : Int)) = false := by simp
      clear hl
      go_enter Try.func17, Try.ntmps17
      go_wp2_with (go_at_call 10; refine (refcheck_any _ _ _ _ hm hrow).mono ?_; rw [HCK.out]; rintro e w1 ⟨rfl, hb1⟩; have hsz1 := hb1.size; have ho1 := own_new w1 [.int .i64 0] 2 w.heap.size 1 1 hsz1 rfl (by decide); have hb2 := hb1.alloc hsz1 (.cells #[.int .i64 0] 2))
      go_loopw [7, 8, 9] (fun t v i wr => ∃ k : Nat, k ≤ xs.length ∧ i = .int .i64 k ∧ t = .int .i64 (offAt xs ls k) ∧ wr.ownsRow w.heap.size 2 1 v (k + 1) (i64s ((List.range (k + 1)).map (offAt xs ls))) ∧ Below w.heap.size w wr) (fun _ _ i _ => xs.length - (intOf i).toNat)
      case atStart => exact ⟨0, Nat.zero_le _, rfl, rfl, ho1, hb2⟩
      case round =>
        clear ho1 hb2 hb1 hsz1
        obtain ⟨k, hk, rfl, rfl, ho, hb⟩ := hrel
        have hob := off_bd xs ls HPL.out k hk
        have htk := total_take xs.length xs HPL.out k
        have hsz := hb.size
        obtain ⟨A, hA⟩ : ∃ A, A = offAt xs ls k := ⟨_, rfl⟩
        rw [← hA] at hob ⊢
        have HA := hid hA
        obtain ⟨hA1, hA2⟩ := hob
        have hA3 : A ≤ 67108864 := by omega
        clear hA hA2 htk
        by_cases hlt : k < xs.length
        · have hl7 := itCells_len xs
          obtain ⟨b, off, rfl, hzz⟩ := hrow.at (by omega)
          clear hzz
          obtain ⟨c0, c1, c2, c3, c4, c5, c6⟩ := item_cells (hrow.below hb) k hlt
          have hpx := HPL.out _ (List.getElem_mem hlt)
          have HN := hid (off_succ xs ls k hlt)
          have hlk : k < (bools ls).length := by simp [HL.out]; exact hlt
          obtain ⟨qb, qo, rfl, hqb, hzz⟩ := hrow2.at (by omega)
          clear hzz
          have hcl := (hb.cell (p := ⟨qb, qo + k, none⟩) hqb).trans (hrow2.cell k hlk)
          simp only [bools, List.getElem_map] at hcl
          have HLG : Hid (ls.getD k false = ls[k]'(by rw [HL.out]; exact hlt)) := by simp [Hid, List.getD, show k < ls.length by rw [HL.out]; exact hlt]
          clear hl7
          obtain ⟨x, hx⟩ : ∃ x, x = xs[k] := ⟨_, rfl⟩
          obtain ⟨lg, hlg⟩ : ∃ lg, lg = ls[k]'(by rw [HL.out]; exact hlt) := ⟨_, rfl⟩
          rw [← hx] at c0 c1 c2 c3 c4 c5 c6 hpx HN
          rw [← hlg] at hcl HLG
          clear hx hlg hlk
          rw [HLG.out, ← HA.out] at HN
          have hnb := next_bd A x lg xs.length hA1 hpx
          have HPX := hid hpx
          clear hpx
          obtain ⟨B, hB⟩ : ∃ B, B = nextAt A x lg := ⟨_, rfl⟩
          have hmx := mostP_bd HPX.out
          rw [← hB] at HN hnb
          have HB := hid hB
          have hB1 : 0 ≤ B := by omega
          clear hB hnb hmx
          obtain ⟨kind, size, al, to, add, lo, hi⟩ := x
          dsimp only at c0 c1 c2 c3 c4 c5 c6
          have fin : ∀ (v2 : Value) (w2 : World), w2.ownsRow w.heap.size 2 1 v2 (k + 1 + 1) (i64s ((List.range (k + 1)).map (offAt xs ls)) ++ [.int .i64 B]) → Hid (w2.ownsRow w.heap.size 2 1 v2 (k + 1 + 1) (i64s ((List.range (k + 1 + 1)).map (offAt xs ls)))) := fun v2 w2 h => by
            simp only [Hid]
            rw [List.range_succ (n := k + 1)]
            simpa [i64s, HN.out] using h
          rcases Classical.em (kind = 1) with hk1 | hk1
          · subst hk1
            have hsz1 : 0 ≤ size ∧ size ≤ 67108864 := by have := HPX.out; simp [plainP, within] at this; omega
            obtain ⟨hsz2, hsz3⟩ := hsz1
            have HB1 : Hid (B = A + size) := by simp only [Hid]; rw [HB.out]; simp [nextAt]
            go_wp2_with ((with_reducible show wpList _ _ _ (⟨some 70, _, _, _, _, _⟩ :: _) _ _); go_loud (rw [← HB1.out]); go_loud (refine wpList_app E37 rfl _ _ rfl w.heap.size _ _ _ rfl (ho.alloc _) _ 1 1 [.int .i64 B] rfl rfl (by simp) (row_newAt _ _ _ _ (by simp)) (by simp [Value.oneCell']) (by unfold maxLen; omega) (by omega) (by simp; omega) ?_); intro v2 w2 ho2 hg2 hs2; have hb2 := (hb.alloc (by omega) _).grown hg2 (by simp; omega) (own_ge ho))
            go_roundw
            case rel => exact ⟨k + 1, by omega, by go_num, by rw [HN.out], (fin _ _ ho2).out, hb2⟩
            case measure => simp [intOf]; omega
          · rcases Classical.em (kind = 2) with hk2 | hk2
            · subst hk2
              have ha := plainP_al HPX.out rfl
              dsimp only at ha
              obtain ⟨a, rfl⟩ : ∃ a : Nat, al = a := ⟨al.toNat, by omega⟩
              have ha12 : a ≤ 12 := by omega
              clear ha
              obtain ⟨hp1, hp2⟩ := pow12 a ha12
              have hr1 := Int.emod_nonneg A (show (2 : Int) ^ a ≠ 0 by omega)
              have hr2 := Int.emod_lt_of_pos A (show (0 : Int) < 2 ^ a by omega)
              have hr3 := Int.emod_nonneg (2 ^ a - A % 2 ^ a) (show (2 : Int) ^ a ≠ 0 by omega)
              have hr4 := Int.emod_lt_of_pos (2 ^ a - A % 2 ^ a) (show (0 : Int) < 2 ^ a by omega)
              have hnz : ((2 : Int) ^ a == 0) = false := by rw [beq_eq_false_iff_ne]; omega
              have HB1 : Hid (B = A + -(A % 2 ^ a) % 2 ^ a) := by
                have e : A + -(A % 2 ^ a) % 2 ^ a = A + (2 ^ a - A % 2 ^ a) % 2 ^ a := by simp
                simp only [Hid]; rw [HB.out, e, up_rem A (2 ^ a) hp1]; simp [nextAt]
              go_wp2_with (first
                | (go_at_call 33; refine (power_any a _ ha12).mono ?_; rintro e w1 ⟨rfl, rfl⟩)
                | (((with_reducible show wpList _ _ _ (⟨some 70, _, _, _, _, _⟩ :: _) _ _); go_loud (rw [← HB1.out]); go_loud (refine wpList_app E37 rfl _ _ rfl w.heap.size _ _ _ rfl (ho.alloc _) _ 1 1 [.int .i64 B] rfl rfl (by simp) (row_newAt _ _ _ _ (by simp)) (by simp [Value.oneCell']) (by unfold maxLen; omega) (by omega) (by simp; omega) ?_); intro v2 w2 ho2 hg2 hs2; have hb2 := (hb.alloc (by omega) _).grown hg2 (by simp; omega) (own_ge ho))))
              go_roundw
              case rel => exact ⟨k + 1, by omega, by go_num, by rw [HN.out], (fin _ _ ho2).out, hb2⟩
              case measure => simp [intOf]; omega
            · have e1 : (kind == 1) = false := by simpa using hk1
              have e2 : (kind == 2) = false := by simpa using hk2
              have HB0 : Hid (B = if lg then A + 8 else A + 4) := by simp only [Hid]; rw [HB.out]; simp [nextAt, hk1, hk2]
              clear hk1 hk2
              cases lg
              · have HB1 : Hid (B = A + 4) := by simp only [Hid]; rw [HB0.out]; rfl
                go_wp2_with ((with_reducible show wpList _ _ _ (⟨some 70, _, _, _, _, _⟩ :: _) _ _); go_loud (rw [← HB1.out]); go_loud (refine wpList_app E37 rfl _ _ rfl w.heap.size _ _ _ rfl (ho.alloc _) _ 1 1 [.int .i64 B] rfl rfl (by simp) (row_newAt _ _ _ _ (by simp)) (by simp [Value.oneCell']) (by unfold maxLen; omega) (by omega) (by simp; omega) ?_); intro v2 w2 ho2 hg2 hs2; have hb2 := (hb.alloc (by omega) _).grown hg2 (by simp; omega) (own_ge ho))
                go_roundw
                case rel => exact ⟨k + 1, by omega, by go_num, by rw [HN.out], (fin _ _ ho2).out, hb2⟩
                case measure => simp [intOf]; omega
              · have HB1 : Hid (B = A + 4 + 4) := by simp only [Hid]; rw [HB0.out]; simp; omega
                go_wp2_with ((with_reducible show wpList _ _ _ (⟨some 70, _, _, _, _, _⟩ :: _) _ _); go_loud (rw [← HB1.out]); go_loud (refine wpList_app E37 rfl _ _ rfl w.heap.size _ _ _ rfl (ho.alloc _) _ 1 1 [.int .i64 B] rfl rfl (by simp) (row_newAt _ _ _ _ (by simp)) (by simp [Value.oneCell']) (by unfold maxLen; omega) (by omega) (by simp; omega) ?_); intro v2 w2 ho2 hg2 hs2; have hb2 := (hb.alloc (by omega) _).grown hg2 (by simp; omega) (own_ge ho))
                go_roundw
                case rel => exact ⟨k + 1, by omega, by go_num, by rw [HN.out], (fin _ _ ho2).out, hb2⟩
                case measure => simp [intOf]; omega
        · have hkx : k = xs.length := by omega
          subst hkx
          go_wp2_with fail
          go_ret2
          exact ⟨u8, by rw [HE.out]; rfl, by rw [HR.out, offs_len]; exact ho, hb⟩
    · have HE : Hid (offErr xs ls = 1) := by simp [Hid, offErr, hc, hl]
      have HR : Hid (offRes xs ls = []) := by simp [Hid, offRes, HE.out]
      have hne : ((ls.length : Int) != (xs.length : Int)) = true := by rw [bne_iff_ne]; omega
      have HCK := hid hc
      clear hpl h3 hl hc
      go_enter Try.func17, Try.ntmps17
      go_wp2_with (go_at_call 10; refine (refcheck_any _ _ _ _ hm hrow).mono ?_; rw [HCK.out]; rintro e w1 ⟨rfl, hb1⟩)
      go_ret2
      exact ⟨.slice none 0 0, by rw [HE.out]; rfl, by rw [HR.out]; exact World.ownsRow_nil _ _ _ _, hb1⟩
  · have HE : Hid (offErr xs ls = checkP xs) := by simp [Hid, offErr, hc]
    have HR : Hid (offRes xs ls = []) := by simp [Hid, offRes, HE.out, hc]
    obtain ⟨E, hE⟩ : ∃ E, E = checkP xs := ⟨_, rfl⟩
    rw [← hE] at hc HE
    have HCK := hid hE
    have hne : (E != 0) = true := by simpa using hc
    clear hc hE
    go_enter Try.func17, Try.ntmps17
    go_wp2_with (go_at_call 10; refine (refcheck_any _ _ _ _ hm hrow).mono ?_; rw [← HCK.out]; rintro e w1 ⟨rfl, hb1⟩)
    go_ret2
    exact ⟨.slice none 0 0, by rw [HE.out]; rfl, by rw [HR.out]; exact World.ownsRow_nil _ _ _ _, hb1⟩
end Go.Proofs.Ytkjiiikcillcfaa
