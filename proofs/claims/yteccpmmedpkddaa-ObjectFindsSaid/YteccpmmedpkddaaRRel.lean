/-
  A section's relocations, the document's walk; alignments.
-/
import Derived.Test.YteccpmmedpkddaaRel
namespace Go.Proofs.Yteccpmmedpkddaa
open Go.RowKit

def rrelP (kind size n : Int) (l : List Rl) : Bool := if kind = 4 ∧ 0 < l.length then false else relP size n l

set_option maxRecDepth 20000 in
set_option maxHeartbeats 1000000 in
theorem rrelocs_any (s : Sc) (n : Int) (w : World) (hs : s.ok w) (h0 : 0 ≤ s.size) (h1 : s.size ≤ 1048576) (hn : 0 ≤ n ∧ n ≤ 4398046510976) :
    Calls Try.prog 68 #[.agg s.cells.toArray, .int .i64 n] w fun e w' => e = .returned (.bool (rrelP s.kind s.size n s.rel)) ∧ Below w.heap.size w w' := by
  have hrow := hs.rel
  have hrc := hs.rcap.1
  have hrm := hs.rcap.2.1
  have hrk := hs.rels
  obtain ⟨name, kind, align, size, data, dp, dc, rel, rp, rc⟩ := s
  dsimp only at h0 h1 hrow hrc hrm hrk ⊢
  clear hs
  show Calls Try.prog 68 #[.agg #[.string name, .int .i64 kind, .int .i64 align, .int .i64 size, .slice dp data.length dc, .slice rp rel.length rc], .int .i64 n] w _
  have HW := hid (fun k w => rwidth_any k w)
  by_cases hl : rel.length ≤ 4096
  · by_cases hkz : kind = 4 ∧ 0 < rel.length
    · have HP : Hid (rrelP kind size n rel = false) := by simp only [Hid, rrelP, if_pos hkz]
      obtain ⟨rfl, hl0⟩ := hkz
      go_enter Try.func68, Try.ntmps68
      go_wp2
      go_ret
      exact ⟨ret_bool HP.out.symm, (Below.refl _ _).alloc (Nat.le_refl _) _⟩
    · have HP : Hid (rrelP kind size n rel = relN size n rel rel.length) := by
        simp only [Hid, rrelP, if_neg hkz, relP, decide_eq_true hl, Bool.true_and]
      by_cases hk4 : kind = 4
      · subst hk4
        obtain rfl : rel = [] := List.eq_nil_of_length_eq_zero (by omega)
        go_enter Try.func68, Try.ntmps68
        go_wp2
        refine wp_loop_once ?_
        go_wp2
        go_ret
        exact ⟨ret_bool (HP.out.trans rfl).symm, (Below.refl _ _).alloc (Nat.le_refl _) _⟩
      have hk4' : (kind == 4) = false := by simpa using hk4
      clear hkz hk4
      go_enter Try.func68, Try.ntmps68
      go_wp2
      have hrow0 := hrow
      go_loopw [5, 6] (fun e i wr => ∃ k : Nat, k ≤ rel.length ∧ i = .int .i64 k ∧ e = .int .i64 (endR rel k) ∧ relN size n rel k = true ∧ Below w.heap.size w wr ∧ wr.heap[w.heap.size]? = some (.cells #[.string name, .int .i64 kind, .int .i64 align, .int .i64 size, .slice dp data.length dc, .slice rp rel.length rc] 40 (0, 0))) (fun _ i _ => rel.length - (intOf i).toNat)
      case atStart => exact ⟨0, Nat.zero_le _, rfl, rfl, rfl, (Below.refl _ _).alloc (Nat.le_refl _) _, heap_alloc_new w _⟩
      case round =>
        obtain ⟨k, hk, rfl, rfl, hok, hb, hblk⟩ := hrel
        obtain ⟨f1, f2, f3⟩ := endR_facts size n rel h0 k hk hok
        have HOK := hid hok
        clear hok
        have d3 := cell_of_row wr w.heap.size 3 _ _ _ hblk
        have d5 := cell_of_row wr w.heap.size 5 _ _ _ hblk
        have hlw := (Array.getElem?_eq_some_iff.1 hblk).1
        simp only [List.getElem?_toArray, List.getElem?_cons_zero, List.getElem?_cons_succ] at d3 d5
        have HBK := hid hblk
        clear hblk
        by_cases hlt : k < rel.length
        · have HS := hid (relN_succ size n rel k hlt)
          have HF := hid (relN_false size n rel k hlt)
          have HE := hid (endR_succ rel k hlt)
          have hsz := hb.size
          obtain ⟨b, off, rfl, hbs, hzz⟩ := hrow.at (by have := flat_len Rl.cells 4 (fun _ => rfl) rel; omega)
          clear hzz
          obtain ⟨c0, c1, c2, c3⟩ := rl_cells (hrow.below hb) k hlt
          have hbs2 : b < wr.heap.size := by omega
          obtain ⟨r, hr⟩ : ∃ r, r = rel[k] := ⟨_, rfl⟩
          have hro := hrk rel[k] (List.getElem_mem _)
          rw [← hr] at c0 c1 c2 c3 HS HF HE hro
          obtain ⟨e, he⟩ : ∃ e, e = endR rel k := ⟨_, rfl⟩
          rw [← he] at HS HF f1 f2 f3 ⊢
          obtain ⟨ro, rt, rs, ra⟩ := r
          obtain ⟨W, hW⟩ : ∃ W, W = widthP rt := ⟨_, rfl⟩
          have hwv := width_vals rt
          have HWW := hid (fun w1 => HW.out rt w1)
          unfold rOk at HS HF
          dsimp only at c0 c1 c2 c3 HS HF HE hro
          rw [← hW] at hwv HWW HS HF HE
          have HR := hid hr
          have HEE := hid he
          have HWV := hid hW
          clear hr he hW
          obtain ⟨⟨i1, i2⟩, ⟨i3, i4⟩, ⟨i5, i6⟩, i7, i8⟩ := hro
          have hW8 : 0 ≤ W ∧ W ≤ 8 := by omega
          obtain ⟨hW0, hW9⟩ := hW8
          have HWv := hid hwv
          have HF3 := hid f3
          have HNO := hid (fun h => HP.out.trans (HF.out h _ (Nat.succ_le_of_lt hlt)))
          clear hwv f3
          have hro0 : 0 ≤ e := f1
          go_wp2_with (go_at_call 12; refine (HWW.out _).mono ?_; rintro e w' ⟨rfl, rfl⟩)
          all_goals first
            | (go_ret; refine ⟨ret_bool (HNO.out ?_).symm, hb.alloc hsz _⟩; clear HNO HWW HW HEE HOK HR HBK HS HF HE HF3 HWV HP; first | (simp; omega) | (simp_all; done) | (simp only [beq_iff_eq, beq_eq_false_iff_ne, bne_iff_ne, ne_eq] at *; simp; omega))
            | (go_roundw
               case rel => exact ⟨k + 1, by omega, by go_num, by rw [HE.out], by rw [HS.out, HOK.out, Bool.true_and]; clear HNO HWW HW HEE HOK HR HBK HS HF HE HF3 HWV HP; first | (simp_all; done) | (simp only [beq_iff_eq, beq_eq_false_iff_ne] at *; simp; omega), hb.alloc hsz _, (Below.heap_alloc _ _ _ (by omega)).trans HBK.out⟩
               case measure => simp [intOf]; omega)
        · go_wp2
          go_ret
          obtain rfl : k = rel.length := by omega
          exact ⟨ret_bool (by rw [HP.out]; exact HOK.out.symm), hb⟩
  · have HP : Hid (rrelP kind size n rel = false) := by simp [Hid, rrelP, relP, hl]
    have hl' : 4096 < rel.length := by omega
    go_enter Try.func68, Try.ntmps68
    go_wp2
    go_ret
    exact ⟨ret_bool HP.out.symm, (Below.refl _ _).alloc (Nat.le_refl _) _⟩
end Go.Proofs.Yteccpmmedpkddaa
