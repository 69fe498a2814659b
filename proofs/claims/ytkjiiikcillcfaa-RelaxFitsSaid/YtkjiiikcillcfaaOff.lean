/-
  The walk of relax.offsets: where items begin.
-/
import Derived.Test.YtkjiiikcillcfaaK
import Derived.Test.YtkjiiikcillcfaaBits
namespace Go.Proofs.Ytkjiiikcillcfaa
open Go.RowKit

theorem E37 : Elem Try.prog 37 2 1 8 (.int .i64 0) := Elem.mk' Try.underlying37 (by kernel_rfl) rfl (by decide)
theorem E23 : Elem Try.prog 23 4 1 1 (.bool false) := Elem.mk' Try.underlying23 (by kernel_rfl) rfl (by decide)
abbrev i64s (l : List Int) : List Value := l.map (Value.int .i64)
abbrev bools (l : List Bool) : List Value := l.map Value.bool

def up (at_ : Int) (p : Int) : Int := (at_ + p - 1) / p * p
def nextAt (at_ : Int) (x : It) (lg : Bool) : Int :=
  if x.kind = 1 then at_ + x.size else if x.kind = 2 then up at_ (2 ^ x.al.toNat) else if lg then at_ + 8 else at_ + 4

/-- Where item k begins. -/
def offAt (xs : List It) (ls : List Bool) : Nat → Int
  | 0 => 0
  | k + 1 => match xs[k]? with | some x => nextAt (offAt xs ls k) x (ls.getD k false) | none => offAt xs ls k
def offs (xs : List It) (ls : List Bool) : List Int := (List.range (xs.length + 1)).map (offAt xs ls)

theorem up_bd (at_ : Int) (n : Nat) (_ : 0 ≤ at_) : at_ ≤ up at_ (2 ^ n) ∧ up at_ (2 ^ n) ≤ at_ + (2 ^ n - 1) := by
  have hp : (1 : Int) ≤ 2 ^ n := by
    induction n with
    | zero => decide
    | succ n ih => rw [Int.pow_succ]; omega
  obtain ⟨p, hp2⟩ : ∃ p : Int, p = 2 ^ n := ⟨_, rfl⟩
  unfold up
  rw [← hp2] at hp ⊢
  have h1 := Int.emod_add_mul_ediv (at_ + p - 1) p
  have h2 := Int.emod_nonneg (at_ + p - 1) (show p ≠ 0 by omega)
  have h3 := Int.emod_lt_of_pos (at_ + p - 1) (show 0 < p by omega)
  rw [Int.mul_comm] at h1
  omega
theorem next_bd (at_ : Int) (x : It) (lg : Bool) (n : Int) (h : 0 ≤ at_) (hp : plainP x n = true) : at_ ≤ nextAt at_ x lg ∧ nextAt at_ x lg ≤ at_ + mostP x := by
  have hm := mostP_bd hp
  unfold nextAt
  by_cases h1 : x.kind = 1
  · simp only [if_pos h1, mostP] at hm ⊢; omega
  · by_cases h2 : x.kind = 2
    · simp only [if_neg h1, if_pos h2, mostP] at hm ⊢
      have := up_bd at_ x.al.toNat h
      omega
    · simp only [if_neg h1, if_neg h2, mostP] at hm ⊢
      split <;> omega
theorem off_bd (xs : List It) (ls : List Bool) (h : ∀ x ∈ xs, plainP x xs.length = true) : ∀ k, k ≤ xs.length → 0 ≤ offAt xs ls k ∧ offAt xs ls k ≤ total (xs.take k)
  | 0, _ => by simp [offAt, total]
  | k + 1, hk => by
    have ih := off_bd xs ls h k (by omega)
    have hx := h _ (List.getElem_mem (show k < xs.length by omega))
    rw [take_succ xs k (by omega), total_snoc, offAt, List.getElem?_eq_getElem (by omega)]
    have := next_bd (offAt xs ls k) xs[k] (ls.getD k false) xs.length ih.1 hx
    dsimp only
    omega
theorem off_succ (xs : List It) (ls : List Bool) (k : Nat) (h : k < xs.length) : offAt xs ls (k + 1) = nextAt (offAt xs ls k) xs[k] (ls.getD k false) := by
  rw [offAt, List.getElem?_eq_getElem h]

set_option maxHeartbeats 1000000 in
theorem offsets_any (p : Option Addr) (c : Nat) (xs : List It) (q : Option Addr) (d : Nat) (ls : List Bool) (w : World) (hm : xs.length ≤ 65536) (hl : ls.length = xs.length) (hpl : ∀ x ∈ xs, plainP x xs.length = true) (ht : total xs ≤ 67108864)
    (hrow : Row w p (itCells xs)) (hrow2 : Row w q (bools ls)) :
    Calls Try.prog 32 #[.slice p xs.length c, .slice q xs.length d] w fun e w' => ∃ v, e = .returned v ∧ w'.ownsRow w.heap.size 2 1 v (xs.length + 1) (i64s (offs xs ls)) ∧ Below w.heap.size w w' := by
  have HL := hid hl
  clear hl
  go_enter Try.func32, Try.ntmps32
  go_wp2_with ((with_reducible show wpList _ _ _ (⟨some 13, _, _, _, _, _⟩ :: _) _ _); go_loud (refine wpList_mk E37 rfl _ _ rfl w.heap.size _ _ _ (xs.length + 1) rfl rfl (by omega) (by omega) (by unfold maxLen; omega) (Nat.le_refl _) ?_); intro w1 ho1 hg1)
  have hb0 : Below w.heap.size w w1 := (Below.refl _ _).grown hg1 (Nat.le_refl _) (by simp)
  go_loopw [5, 6, 16] (fun v t i wr => ∃ k : Nat, k ≤ xs.length ∧ i = .int .i64 k ∧ t = .int .i64 (offAt xs ls k) ∧ wr.ownsRow w.heap.size 2 1 v k (i64s ((List.range k).map (offAt xs ls))) ∧ Below w.heap.size w wr) (fun _ _ i _ => xs.length - (intOf i).toNat)
  case atStart => exact ⟨0, Nat.zero_le _, rfl, rfl, ho1, hb0⟩
  case round =>
    clear hb0 hg1 ho1
    obtain ⟨k, hk, rfl, rfl, ho, hb⟩ := hrel
    have hob := off_bd xs ls hpl k hk
    have htk := total_take xs.length xs hpl k
    have hsz := hb.size
    obtain ⟨A, hA⟩ : ∃ A, A = offAt xs ls k := ⟨_, rfl⟩
    rw [← hA] at hob ⊢
    have HA := hid hA
    obtain ⟨hA1, hA2⟩ := hob
    have hA3 : A ≤ 67108864 := by omega
    clear hA hA2 htk
    by_cases hlt : k < xs.length
    · have hl7 := itCells_len xs
      obtain ⟨b, off, rfl, hzz⟩ := hrow.at (by omega)
      clear hzz
      obtain ⟨c0, c1, c2, c3, c4, c5, c6⟩ := item_cells (hrow.below hb) k hlt
      have hpx := hpl _ (List.getElem_mem hlt)
      have HN := hid (off_succ xs ls k hlt)
      have HR2 := hid (hrow2.below hb)
      have hlk : k < (bools ls).length := by simp [HL.out]; exact hlt
      obtain ⟨qb, qo, rfl, hqb, hzz⟩ := hrow2.at (by omega)
      clear hzz
      have cl := hrow2.cell k hlk
      simp only [bools, List.getElem_map] at cl
      have HLG : Hid (ls.getD k false = ls[k]'(by rw [HL.out]; exact hlt)) := by simp [Hid, List.getD, show k < ls.length by rw [HL.out]; exact hlt]
      clear hl7
      obtain ⟨x, hx⟩ : ∃ x, x = xs[k] := ⟨_, rfl⟩
      have hcl := cl
      clear cl
      obtain ⟨lg, hlg⟩ : ∃ lg, lg = ls[k]'(by rw [HL.out]; exact hlt) := ⟨_, rfl⟩
      rw [← hx] at c0 c1 c2 c3 c4 c5 c6 hpx HN
      rw [← hlg] at hcl HLG
      have HCL := hid hcl
      clear hx hlg hlk hcl
      have hob2 := next_bd A x lg xs.length hA1 hpx
      rw [HLG.out, ← HA.out] at HN
      have HPX := hid hpx
      clear hpx
      obtain ⟨kind, size, al, to, add, lo, hi⟩ := x
      dsimp only at c0 c1 c2 c3 c4 c5 c6
      rcases Classical.em (kind = 1) with hk1 | hk1
      · subst hk1
        have hsz1 : 0 ≤ size ∧ size ≤ 67108864 := by have := HPX.out; simp [plainP, within] at this; omega
        obtain ⟨hsz2, hsz3⟩ := hsz1
        go_wp2_with ((with_reducible show wpList _ _ _ (⟨some 24, _, _, _, _, _⟩ :: _) _ _); go_loud (refine wpList_app E37 rfl _ _ rfl w.heap.size _ _ _ rfl ((ho.alloc _).alloc _) _ 1 1 [.int .i64 A] rfl rfl (by simp) (row_newAt _ _ _ _ (by simp)) (by simp [Value.oneCell']) (by unfold maxLen; omega) (by omega) (by simp; omega) ?_); intro v2 w2 ho2 hg2 hs2; go_loud (obtain ⟨x0, x1, x2, x3, x4, x5, x6⟩ := box_kept hg2 (own_lt ho)); have hb2 := ((hb.alloc (by omega) _).alloc (by simp; omega) _).grown hg2 (by simp; omega) (own_ge ho); have hcl2 := (hb2.cell (p := ⟨qb, qo + k, none⟩) hqb).trans HCL.out)
        go_roundw
        case rel => exact ⟨k + 1, by omega, by go_num, by rw [HN.out]; simp [nextAt], by rw [List.range_succ]; simpa [i64s, HA.out] using ho2, hb2⟩
        case measure => simp [intOf]; omega
      · rcases Classical.em (kind = 2) with hk2 | hk2
        · subst hk2
          have ha := plainP_al HPX.out rfl
          dsimp only at ha
          obtain ⟨a, rfl⟩ : ∃ a : Nat, al = a := ⟨al.toNat, by omega⟩
          have ha12 : a ≤ 12 := by omega
          clear ha
          obtain ⟨hp1, hp2⟩ := pow12 a ha12
          go_wp2_with ((with_reducible show wpList _ _ _ (⟨some 24, _, _, _, _, _⟩ :: _) _ _); go_loud (refine wpList_app E37 rfl _ _ rfl w.heap.size _ _ _ rfl ((ho.alloc _).alloc _) _ 1 1 [.int .i64 A] rfl rfl (by simp) (row_newAt _ _ _ _ (by simp)) (by simp [Value.oneCell']) (by unfold maxLen; omega) (by omega) (by simp; omega) ?_); intro v2 w2 ho2 hg2 hs2; go_loud (obtain ⟨x0, x1, x2, x3, x4, x5, x6⟩ := box_kept hg2 (own_lt ho)); have hb2 := ((hb.alloc (by omega) _).alloc (by simp; omega) _).grown hg2 (by simp; omega) (own_ge ho); have hcl2 := (hb2.cell (p := ⟨qb, qo + k, none⟩) hqb).trans HCL.out)
          go_roundw
          case rel =>
            refine ⟨k + 1, by omega, by go_num, ?_, by rw [List.range_succ]; simpa [i64s, HA.out] using ho2, hb2⟩
            rw [HN.out, andNot_up A a hA1 hA3 ha12]
            simp [nextAt, up]
          case measure => simp [intOf]; omega
        · have e1 : (kind == 1) = false := by simpa using hk1
          have e2 : (kind == 2) = false := by simpa using hk2
          have HN2 : Hid (nextAt A ⟨kind, size, al, to, add, lo, hi⟩ lg = if lg then A + 8 else A + 4) := by simp [Hid, nextAt, hk1, hk2]
          clear hk1 hk2
          cases lg
          · go_wp2_with ((with_reducible show wpList _ _ _ (⟨some 24, _, _, _, _, _⟩ :: _) _ _); go_loud (refine wpList_app E37 rfl _ _ rfl w.heap.size _ _ _ rfl ((ho.alloc _).alloc _) _ 1 1 [.int .i64 A] rfl rfl (by simp) (row_newAt _ _ _ _ (by simp)) (by simp [Value.oneCell']) (by unfold maxLen; omega) (by omega) (by simp; omega) ?_); intro v2 w2 ho2 hg2 hs2; go_loud (obtain ⟨x0, x1, x2, x3, x4, x5, x6⟩ := box_kept hg2 (own_lt ho)); have hb2 := ((hb.alloc (by omega) _).alloc (by simp; omega) _).grown hg2 (by simp; omega) (own_ge ho); have hcl2 := (hb2.cell (p := ⟨qb, qo + k, none⟩) hqb).trans HCL.out)
            go_roundw
            case rel => exact ⟨k + 1, by omega, by go_num, by rw [HN.out, HN2.out]; rfl, by rw [List.range_succ]; simpa [i64s, HA.out] using ho2, hb2⟩
            case measure => simp [intOf]; omega
          · go_wp2_with ((with_reducible show wpList _ _ _ (⟨some 24, _, _, _, _, _⟩ :: _) _ _); go_loud (refine wpList_app E37 rfl _ _ rfl w.heap.size _ _ _ rfl ((ho.alloc _).alloc _) _ 1 1 [.int .i64 A] rfl rfl (by simp) (row_newAt _ _ _ _ (by simp)) (by simp [Value.oneCell']) (by unfold maxLen; omega) (by omega) (by simp; omega) ?_); intro v2 w2 ho2 hg2 hs2; go_loud (obtain ⟨x0, x1, x2, x3, x4, x5, x6⟩ := box_kept hg2 (own_lt ho)); have hb2 := ((hb.alloc (by omega) _).alloc (by simp; omega) _).grown hg2 (by simp; omega) (own_ge ho); have hcl2 := (hb2.cell (p := ⟨qb, qo + k, none⟩) hqb).trans HCL.out)
            go_roundw
            case rel => exact ⟨k + 1, by omega, by go_num, by rw [HN.out, HN2.out]; rfl, by rw [List.range_succ]; simpa [i64s, HA.out] using ho2, hb2⟩
            case measure => simp [intOf]; omega
    · have hkx : k = xs.length := by omega
      subst hkx
      go_wp2_with ((with_reducible show wpList _ _ _ (⟨some 60, _, _, _, _, _⟩ :: _) _ _); go_loud (refine wpList_app E37 rfl _ _ rfl w.heap.size _ _ _ rfl (ho.alloc _) _ 1 1 [.int .i64 A] rfl rfl (by simp) (row_newAt _ _ _ _ (by simp)) (by simp [Value.oneCell']) (by unfold maxLen; omega) (by omega) (by simp; omega) ?_); intro v2 w2 ho2 hg2 hs2)
      go_ret
      refine ⟨v2, rfl, ?_, (hb.alloc (by omega) _).grown hg2 (by simp; omega) (own_ge ho)⟩
      simpa [offs, List.range_succ, i64s, HA.out] using ho2
end Go.Proofs.Ytkjiiikcillcfaa
