/-
  A section's relocations: which may be: both walks.
-/
import Derived.Test.YteccpmmedpkddaaOb
import Derived.Test.YteccpmmedpkddaaName
import Derived.Deep.RegionWith
import Derived.BigRegion
import Derived.Deep.DeepCutAuto
namespace Go.Proofs.Yteccpmmedpkddaa
open Go.RowKit

def rOk (size n e : Int) (r : Rl) : Bool :=
  decide (widthP r.ty ≠ 0) && decide (e ≤ r.off) && decide (r.off ≤ size - widthP r.ty) && decide (0 ≤ r.sym) && decide (r.sym < n) && !(decide (273 ≤ r.ty) && decide (r.off % 4 ≠ 0))
def endR (l : List Rl) : Nat → Int
  | 0 => 0
  | k + 1 => match l[k]? with | some r => r.off + widthP r.ty | none => 0
theorem endR_succ (l : List Rl) (k : Nat) (h : k < l.length) : endR l (k + 1) = l[k].off + widthP l[k].ty := by simp only [endR, List.getElem?_eq_getElem h]
def relN (size n : Int) (l : List Rl) : Nat → Bool
  | 0 => true
  | k + 1 => relN size n l k && (match l[k]? with | some r => rOk size n (endR l k) r | none => false)
theorem relN_succ (size n : Int) (l : List Rl) (k : Nat) (h : k < l.length) : relN size n l (k + 1) = (relN size n l k && rOk size n (endR l k) l[k]) := by simp only [relN, List.getElem?_eq_getElem h]
theorem relN_false (size n : Int) (l : List Rl) (k : Nat) (h : k < l.length) (hr : rOk size n (endR l k) l[k] = false) : ∀ m, k + 1 ≤ m → relN size n l m = false
  | 0, hm => by omega
  | m + 1, hm => by
    by_cases e : m = k
    · subst e; rw [relN_succ _ _ _ _ h, hr, Bool.and_false]
    · rw [relN, relN_false size n l k h hr m (by omega), Bool.false_and]
theorem width_vals (k : Int) : widthP k = 0 ∨ widthP k = 2 ∨ widthP k = 4 ∨ widthP k = 8 := by
  unfold widthP; (repeat' split) <;> simp
/-- What the end of the relocations ahead is good for. -/
theorem endR_facts (size n : Int) (l : List Rl) (hs : 0 ≤ size) : ∀ k, k ≤ l.length → relN size n l k = true → 0 ≤ endR l k ∧ endR l k ≤ size ∧ (∀ h : k - 1 < l.length, 0 < k → l[k - 1].off + 2 ≤ endR l k)
  | 0, _, _ => ⟨Int.le_refl _, hs, fun _ h => by omega⟩
  | k + 1, hk, h => by
    rw [relN_succ _ _ _ _ (by omega), Bool.and_eq_true] at h
    obtain ⟨h1, _, _⟩ := endR_facts size n l hs k (by omega) h.1
    have h2 := h.2
    simp only [rOk, Bool.and_eq_true, decide_eq_true_eq] at h2
    have hw := width_vals l[k].ty
    rw [endR_succ l k (by omega)]
    refine ⟨by omega, by omega, fun _ _ => ?_⟩
    simp only [Nat.add_sub_cancel]
    omega
def relP (size n : Int) (l : List Rl) : Bool := decide (l.length ≤ 4096) && relN size n l l.length

set_option maxRecDepth 20000 in
set_option maxHeartbeats 1000000 in
theorem relocs_any (s : Sc) (n : Int) (w : World) (hs : s.ok w) (h0 : 0 ≤ s.size) (h1 : s.size ≤ 1048576) (hn : 0 ≤ n ∧ n ≤ 4398046510976) :
    Calls Try.prog 63 #[.agg s.cells.toArray, .int .i64 n] w fun e w' => e = .returned (.bool (relP s.size n s.rel)) ∧ Below w.heap.size w w' := by
  have hrow := hs.rel
  have hrc := hs.rcap.1
  have hrm := hs.rcap.2.1
  have hrk := hs.rels
  obtain ⟨name, kind, align, size, data, dp, dc, rel, rp, rc⟩ := s
  dsimp only at h0 h1 hrow hrc hrm hrk ⊢
  clear hs
  show Calls Try.prog 63 #[.agg #[.string name, .int .i64 kind, .int .i64 align, .int .i64 size, .slice dp data.length dc, .slice rp rel.length rc], .int .i64 n] w _
  have HW := hid (fun k w => width_any k w)
  by_cases hl : rel.length ≤ 4096
  · have HP : Hid (relP size n rel = relN size n rel rel.length) := by simp [Hid, relP, hl]
    go_enter Try.func63, Try.ntmps63
    go_wp2
    have hrow0 := hrow
    go_loopw [5, 16] (fun e i wr => ∃ k : Nat, k ≤ rel.length ∧ i = .int .i64 k ∧ e = .int .i64 (endR rel k) ∧ relN size n rel k = true ∧ Below w.heap.size w wr ∧ wr.heap[w.heap.size]? = some (.cells #[.string name, .int .i64 kind, .int .i64 align, .int .i64 size, .slice dp data.length dc, .slice rp rel.length rc] 40 (0, 0))) (fun _ i _ => rel.length - (intOf i).toNat)
    case atStart => exact ⟨0, Nat.zero_le _, rfl, rfl, rfl, (Below.refl _ _).alloc (Nat.le_refl _) _, heap_alloc_new w _⟩
    case round =>
      obtain ⟨k, hk, rfl, rfl, hok, hb, hblk⟩ := hrel
      obtain ⟨f1, f2, f3⟩ := endR_facts size n rel h0 k hk hok
      have HOK := hid hok
      clear hok
      have d3 := cell_of_row wr w.heap.size 3 _ _ _ hblk
      have d5 := cell_of_row wr w.heap.size 5 _ _ _ hblk
      have hlw := (Array.getElem?_eq_some_iff.1 hblk).1
      simp only [List.getElem?_toArray, List.getElem?_cons_zero, List.getElem?_cons_succ] at d3 d5
      have HBK := hid hblk
      clear hblk
      by_cases hlt : k < rel.length
      · have HS := hid (relN_succ size n rel k hlt)
        have HF := hid (relN_false size n rel k hlt)
        have HE := hid (endR_succ rel k hlt)
        have hsz := hb.size
        obtain ⟨b, off, rfl, hbs, hzz⟩ := hrow.at (by have := flat_len Rl.cells 4 (fun _ => rfl) rel; omega)
        clear hzz
        obtain ⟨c0, c1, c2, c3⟩ := rl_cells (hrow.below hb) k hlt
        have hbs2 : b < wr.heap.size := by omega
        obtain ⟨r, hr⟩ : ∃ r, r = rel[k] := ⟨_, rfl⟩
        have hro := hrk rel[k] (List.getElem_mem _)
        rw [← hr] at c0 c1 c2 c3 HS HF HE hro
        obtain ⟨e, he⟩ : ∃ e, e = endR rel k := ⟨_, rfl⟩
        rw [← he] at HS HF f1 f2 f3 ⊢
        obtain ⟨ro, rt, rs, ra⟩ := r
        obtain ⟨W, hW⟩ : ∃ W, W = widthP rt := ⟨_, rfl⟩
        have hwv := width_vals rt
        have HWW := hid (fun w1 => HW.out rt w1)
        unfold rOk at HS HF
        dsimp only at c0 c1 c2 c3 HS HF HE hro
        rw [← hW] at hwv HWW HS HF HE
        have HR := hid hr
        have HEE := hid he
        have HWV := hid hW
        clear hr he hW
        obtain ⟨⟨i1, i2⟩, ⟨i3, i4⟩, ⟨i5, i6⟩, i7, i8⟩ := hro
        have hW8 : 0 ≤ W ∧ W ≤ 8 := by omega
        obtain ⟨hW0, hW9⟩ := hW8
        have HWv := hid hwv
        have HF3 := hid f3
        have HNO := hid (fun h => HP.out.trans (HF.out h _ (Nat.succ_le_of_lt hlt)))
        clear hwv f3
        go_upto_region 10 with (go_at_call 11; refine (HWW.out _).mono ?_; rintro e w' ⟨rfl, rfl⟩)
        all_goals first
          | (go_ret; refine ⟨ret_bool (HNO.out ?_).symm, hb.alloc hsz _⟩; clear HNO HWW HW HEE HOK HR HBK HS HF HE HF3 HWV HP; first | (simp; omega) | (simp_all; done) | (simp only [beq_iff_eq, beq_eq_false_iff_ne] at *; simp; omega))
          | skip
        have hpos : ¬ W = 0 := by omega
        have HPOS := hid hpos
        rcases Nat.eq_zero_or_pos k with hk0 | hk0
        · subst hk0
          by_cases h3 : 273 ≤ rt
          · go_quiet (fail)
            go_wp2
            all_goals first
              | (go_ret; refine ⟨ret_bool (HNO.out ?_).symm, below_drewN (hb.alloc hsz _) _⟩; simp_all)
              | (go_roundw
                 case rel => exact ⟨1, by omega, rfl, by rw [HE.out], by rw [HS.out, HOK.out, Bool.true_and]; simp_all, below_drewN (hb.alloc hsz _) _, (Below.heap_alloc _ _ _ (by omega)).trans HBK.out⟩
                 case measure => simp [intOf]; omega)
          · have h3' : rt < 273 := by omega
            go_quiet (fail)
            go_wp2
            go_roundw
            case rel => exact ⟨1, by omega, rfl, by rw [HE.out], by rw [HS.out, HOK.out, Bool.true_and]; simp_all, below_drewN (hb.alloc hsz _) _, (Below.heap_alloc _ _ _ (by omega)).trans HBK.out⟩
            case measure => simp [intOf]; omega
        · have hkk : k - 1 < rel.length := by omega
          have hkv := HF3.out hkk hk0
          obtain ⟨p0, p1, p2, p3⟩ := rl_cells (hrow.below hb) (k - 1) hkk
          obtain ⟨pr, hpr⟩ : ∃ pr, pr = rel[k - 1] := ⟨_, rfl⟩
          rw [← hpr] at hkv p0
          clear p1 p2 p3 hpr
          obtain ⟨j, hj⟩ : ∃ j, j = k - 1 := ⟨_, rfl⟩
          rw [← hj] at p0 hkk
          have hjx : IntKind.i64.wrap ((k : Int) - 1) = (j : Int) := by rw [IntWalk.i64_in _ (by omega)]; omega
          have hjn : (j : Int).toNat = j := by omega
          have hko : 0 < (k : Int) := by omega
          have hkv' : pr.off < ro := by omega
          have htm : ro.tmod 4 = ro % 4 := Int.tmod_eq_emod_of_nonneg (by omega)
          have HTM := hid htm
          clear hj htm
          by_cases h3 : 273 ≤ rt
          · go_quiet (fail)
            clear hjx hjn
            go_wp2
            all_goals first
              | (go_ret; refine ⟨ret_bool (HNO.out ?_).symm, below_drewN (hb.alloc hsz _) _⟩; have htm := HTM.out; simp_all; omega)
              | (go_roundw
                 case rel => exact ⟨k + 1, by omega, by go_num, by rw [HE.out], by rw [HS.out, HOK.out, Bool.true_and]; have htm := HTM.out; simp_all, below_drewN (hb.alloc hsz _) _, (Below.heap_alloc _ _ _ (by omega)).trans HBK.out⟩
                 case measure => simp [intOf]; omega)
          · have h3' : rt < 273 := by omega
            go_quiet (fail)
            clear hjx hjn
            go_wp2
            go_roundw
            case rel => exact ⟨k + 1, by omega, by go_num, by rw [HE.out], by rw [HS.out, HOK.out, Bool.true_and]; simp_all, below_drewN (hb.alloc hsz _) _, (Below.heap_alloc _ _ _ (by omega)).trans HBK.out⟩
            case measure => simp [intOf]; omega
      · go_wp2
        go_ret
        obtain rfl : k = rel.length := by omega
        exact ⟨ret_bool (by rw [HP.out]; exact HOK.out.symm), hb⟩
  · have HP : Hid (relP size n rel = false) := by simp [Hid, relP, hl]
    have hl' : 4096 < rel.length := by omega
    go_enter Try.func63, Try.ntmps63
    go_wp2
    go_ret
    exact ⟨ret_bool HP.out.symm, (Below.refl _ _).alloc (Nat.le_refl _) _⟩
end Go.Proofs.Yteccpmmedpkddaa
