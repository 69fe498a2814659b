/-
  A section's relocations: which may be: both walks.
  A section's relocations, the document's walk; alignments.
  Alignments: which may be: both walks.
  Sections: which may be.
  Symbols: which may be, and their order.
-/
import Derived.Test.YteccpmmedpkddaaJN1
import Derived.Deep.RegionWith
import Derived.BigRegion
import Derived.Deep.DeepCutAuto
import Derived.Deep.RegionHeld3
import Derived.Lib.IndexAny
namespace Go.Proofs.Yteccpmmedpkddaa
open Go.RowKit

def rOk (size n e : Int) (r : Rl) : Bool :=
  decide (widthP r.ty ≠ 0) && decide (e ≤ r.off) && decide (r.off ≤ size - widthP r.ty) && decide (0 ≤ r.sym) && decide (r.sym < n) && !(decide (273 ≤ r.ty) && decide (r.off % 4 ≠ 0))
def endR (l : List Rl) : Nat → Int
  | 0 => 0
  | k + 1 => match l[k]? with | some r => r.off + widthP r.ty | none => 0
theorem endR_succ (l : List Rl) (k : Nat) (h : k < l.length) : endR l (k + 1) = l[k].off + widthP l[k].ty := by simp only [endR, List.getElem?_eq_getElem h]
def relN (size n : Int) (l : List Rl) : Nat → Bool
  | 0 => true
  | k + 1 => relN size n l k && (match l[k]? with | some r => rOk size n (endR l k) r | none => false)
theorem relN_succ (size n : Int) (l : List Rl) (k : Nat) (h : k < l.length) : relN size n l (k + 1) = (relN size n l k && rOk size n (endR l k) l[k]) := by simp only [relN, List.getElem?_eq_getElem h]
theorem relN_false (size n : Int) (l : List Rl) (k : Nat) (h : k < l.length) (hr : rOk size n (endR l k) l[k] = false) : ∀ m, k + 1 ≤ m → relN size n l m = false
  | 0, hm => by omega
  | m + 1, hm => by
    by_cases e : m = k
    · subst e; rw [relN_succ _ _ _ _ h, hr, Bool.and_false]
    · rw [relN, relN_false size n l k h hr m (by omega), Bool.false_and]
theorem width_vals (k : Int) : widthP k = 0 ∨ widthP k = 2 ∨ widthP k = 4 ∨ widthP k = 8 := by
  unfold widthP; (repeat' split) <;> simp
/-- What the end of the relocations ahead is good for. -/
theorem endR_facts (size n : Int) (l : List Rl) (hs : 0 ≤ size) : ∀ k, k ≤ l.length → relN size n l k = true → 0 ≤ endR l k ∧ endR l k ≤ size ∧ (∀ h : k - 1 < l.length, 0 < k → l[k - 1].off + 2 ≤ endR l k)
  | 0, _, _ => ⟨Int.le_refl _, hs, fun _ h => by omega⟩
  | k + 1, hk, h => by
    rw [relN_succ _ _ _ _ (by omega), Bool.and_eq_true] at h
    obtain ⟨h1, _, _⟩ := endR_facts size n l hs k (by omega) h.1
    have h2 := h.2
    simp only [rOk, Bool.and_eq_true, decide_eq_true_eq] at h2
    have hw := width_vals l[k].ty
    rw [endR_succ l k (by omega)]
    refine ⟨by omega, by omega, fun _ _ => ?_⟩
    simp only [Nat.add_sub_cancel]
    omega
def relP (size n : Int) (l : List Rl) : Bool := decide (l.length ≤ 4096) && relN size n l l.length

set_option maxRecDepth 20000 in
set_option maxHeartbeats 1000000 in
theorem relocs_any (s : Sc) (n : Int) (w : World) (hs : s.ok w) (h0 : 0 ≤ s.size) (h1 : s.size ≤ 1048576) (hn : 0 ≤ n ∧ n ≤ 4398046510976) :
    Calls Try.prog 63 #[.agg s.cells.toArray, .int .i64 n] w fun e w' => e = .returned (.bool (relP s.size n s.rel)) ∧ Below w.heap.size w w' := by
  have hrow := hs.rel
  have hrc := hs.rcap.1
  have hrm := hs.rcap.2.1
  have hrk := hs.rels
  obtain ⟨name, kind, align, size, data, dp, dc, rel, rp, rc⟩ := s
  dsimp only at h0 h1 hrow hrc hrm hrk ⊢
  clear hs
  show Calls Try.prog 63 #[.agg #[.string name, .int .i64 kind, .int .i64 align, .int .i64 size, .slice dp data.length dc, .slice rp rel.length rc], .int .i64 n] w _
  have HW := hid (fun k w => width_any k w)
  by_cases hl : rel.length ≤ 4096
  · have HP : Hid (relP size n rel = relN size n rel rel.length) := by simp [Hid, relP, hl]
    go_enter Try.func63, Try.ntmps63
    go_wp2
    have hrow0 := hrow
    go_loopw [5, 16] (fun e i wr => ∃ k : Nat, k ≤ rel.length ∧ i = .int .i64 k ∧ e = .int .i64 (endR rel k) ∧ relN size n rel k = true ∧ Below w.heap.size w wr ∧ wr.heap[w.heap.size]? = some (.cells #[.string name, .int .i64 kind, .int .i64 align, .int .i64 size, .slice dp data.length dc, .slice rp rel.length rc] 40 (0, 0))) (fun _ i _ => rel.length - (intOf i).toNat)
    case atStart => exact ⟨0, Nat.zero_le _, rfl, rfl, rfl, (Below.refl _ _).alloc (Nat.le_refl _) _, heap_alloc_new w _⟩
    case round =>
      obtain ⟨k, hk, rfl, rfl, hok, hb, hblk⟩ := hrel
      obtain ⟨f1, f2, f3⟩ := endR_facts size n rel h0 k hk hok
      have HOK := hid hok
      clear hok
      have d3 := cell_of_row wr w.heap.size 3 _ _ _ hblk
      have d5 := cell_of_row wr w.heap.size 5 _ _ _ hblk
      have hlw := (Array.getElem?_eq_some_iff.1 hblk).1
      simp only [List.getElem?_toArray, List.getElem?_cons_zero, List.getElem?_cons_succ] at d3 d5
      have HBK := hid hblk
      clear hblk
      by_cases hlt : k < rel.length
      · have HS := hid (relN_succ size n rel k hlt)
        have HF := hid (relN_false size n rel k hlt)
        have HE := hid (endR_succ rel k hlt)
        have hsz := hb.size
        obtain ⟨b, off, rfl, hbs, hzz⟩ := hrow.at (by have := flat_len Rl.cells 4 (fun _ => rfl) rel; omega)
        clear hzz
        obtain ⟨c0, c1, c2, c3⟩ := rl_cells (hrow.below hb) k hlt
        have hbs2 : b < wr.heap.size := by omega
        obtain ⟨r, hr⟩ : ∃ r, r = rel[k] := ⟨_, rfl⟩
        have hro := hrk rel[k] (List.getElem_mem _)
        rw [← hr] at c0 c1 c2 c3 HS HF HE hro
        obtain ⟨e, he⟩ : ∃ e, e = endR rel k := ⟨_, rfl⟩
        rw [← he] at HS HF f1 f2 f3 ⊢
        obtain ⟨ro, rt, rs, ra⟩ := r
        obtain ⟨W, hW⟩ : ∃ W, W = widthP rt := ⟨_, rfl⟩
        have hwv := width_vals rt
        have HWW := hid (fun w1 => HW.out rt w1)
        unfold rOk at HS HF
        dsimp only at c0 c1 c2 c3 HS HF HE hro
        rw [← hW] at hwv HWW HS HF HE
        have HR := hid hr
        have HEE := hid he
        have HWV := hid hW
        clear hr he hW
        obtain ⟨⟨i1, i2⟩, ⟨i3, i4⟩, ⟨i5, i6⟩, i7, i8⟩ := hro
        have hW8 : 0 ≤ W ∧ W ≤ 8 := by omega
        obtain ⟨hW0, hW9⟩ := hW8
        have HWv := hid hwv
        have HF3 := hid f3
        have HNO := hid (fun h => HP.out.trans (HF.out h _ (Nat.succ_le_of_lt hlt)))
        clear hwv f3
        go_upto_region 10 with (go_at_call 11; refine (HWW.out _).mono ?_; rintro e w' ⟨rfl, rfl⟩)
        all_goals first
          | (go_ret; refine ⟨ret_bool (HNO.out ?_).symm, hb.alloc hsz _⟩; clear HNO HWW HW HEE HOK HR HBK HS HF HE HF3 HWV HP; first | (simp; omega) | (simp_all; done) | (simp only [beq_iff_eq, beq_eq_false_iff_ne] at *; simp; omega))
          | skip
        have hpos : ¬ W = 0 := by omega
        have HPOS := hid hpos
        rcases Nat.eq_zero_or_pos k with hk0 | hk0
        · subst hk0
          by_cases h3 : 273 ≤ rt
          · go_quiet (fail)
            go_wp2
            all_goals first
              | (go_ret; refine ⟨ret_bool (HNO.out ?_).symm, below_drewN (hb.alloc hsz _) _⟩; simp_all)
              | (go_roundw
                 case rel => exact ⟨1, by omega, rfl, by rw [HE.out], by rw [HS.out, HOK.out, Bool.true_and]; simp_all, below_drewN (hb.alloc hsz _) _, (Below.heap_alloc _ _ _ (by omega)).trans HBK.out⟩
                 case measure => simp [intOf]; omega)
          · have h3' : rt < 273 := by omega
            go_quiet (fail)
            go_wp2
            go_roundw
            case rel => exact ⟨1, by omega, rfl, by rw [HE.out], by rw [HS.out, HOK.out, Bool.true_and]; simp_all, below_drewN (hb.alloc hsz _) _, (Below.heap_alloc _ _ _ (by omega)).trans HBK.out⟩
            case measure => simp [intOf]; omega
        · have hkk : k - 1 < rel.length := by omega
          have hkv := HF3.out hkk hk0
          obtain ⟨p0, p1, p2, p3⟩ := rl_cells (hrow.below hb) (k - 1) hkk
          obtain ⟨pr, hpr⟩ : ∃ pr, pr = rel[k - 1] := ⟨_, rfl⟩
          rw [← hpr] at hkv p0
          clear p1 p2 p3 hpr
          obtain ⟨j, hj⟩ : ∃ j, j = k - 1 := ⟨_, rfl⟩
          rw [← hj] at p0 hkk
          have hjx : IntKind.i64.wrap ((k : Int) - 1) = (j : Int) := by rw [IntWalk.i64_in _ (by omega)]; omega
          have hjn : (j : Int).toNat = j := by omega
          have hko : 0 < (k : Int) := by omega
          have hkv' : pr.off < ro := by omega
          have htm : ro.tmod 4 = ro % 4 := Int.tmod_eq_emod_of_nonneg (by omega)
          have HTM := hid htm
          clear hj htm
          by_cases h3 : 273 ≤ rt
          · go_quiet (fail)
            clear hjx hjn
            go_wp2
            all_goals first
              | (go_ret; refine ⟨ret_bool (HNO.out ?_).symm, below_drewN (hb.alloc hsz _) _⟩; have htm := HTM.out; simp_all; omega)
              | (go_roundw
                 case rel => exact ⟨k + 1, by omega, by go_num, by rw [HE.out], by rw [HS.out, HOK.out, Bool.true_and]; have htm := HTM.out; simp_all, below_drewN (hb.alloc hsz _) _, (Below.heap_alloc _ _ _ (by omega)).trans HBK.out⟩
                 case measure => simp [intOf]; omega)
          · have h3' : rt < 273 := by omega
            go_quiet (fail)
            clear hjx hjn
            go_wp2
            go_roundw
            case rel => exact ⟨k + 1, by omega, by go_num, by rw [HE.out], by rw [HS.out, HOK.out, Bool.true_and]; simp_all, below_drewN (hb.alloc hsz _) _, (Below.heap_alloc _ _ _ (by omega)).trans HBK.out⟩
            case measure => simp [intOf]; omega
      · go_wp2
        go_ret
        obtain rfl : k = rel.length := by omega
        exact ⟨ret_bool (by rw [HP.out]; exact HOK.out.symm), hb⟩
  · have HP : Hid (relP size n rel = false) := by simp [Hid, relP, hl]
    have hl' : 4096 < rel.length := by omega
    go_enter Try.func63, Try.ntmps63
    go_wp2
    go_ret
    exact ⟨ret_bool HP.out.symm, (Below.refl _ _).alloc (Nat.le_refl _) _⟩
end Go.Proofs.Yteccpmmedpkddaa
namespace Go.Proofs.Yteccpmmedpkddaa
open Go.RowKit

def rrelP (kind size n : Int) (l : List Rl) : Bool := if kind = 4 ∧ 0 < l.length then false else relP size n l

set_option maxRecDepth 20000 in
set_option maxHeartbeats 1000000 in
theorem rrelocs_any (s : Sc) (n : Int) (w : World) (hs : s.ok w) (h0 : 0 ≤ s.size) (h1 : s.size ≤ 1048576) (hn : 0 ≤ n ∧ n ≤ 4398046510976) :
    Calls Try.prog 68 #[.agg s.cells.toArray, .int .i64 n] w fun e w' => e = .returned (.bool (rrelP s.kind s.size n s.rel)) ∧ Below w.heap.size w w' := by
  have hrow := hs.rel
  have hrc := hs.rcap.1
  have hrm := hs.rcap.2.1
  have hrk := hs.rels
  obtain ⟨name, kind, align, size, data, dp, dc, rel, rp, rc⟩ := s
  dsimp only at h0 h1 hrow hrc hrm hrk ⊢
  clear hs
  show Calls Try.prog 68 #[.agg #[.string name, .int .i64 kind, .int .i64 align, .int .i64 size, .slice dp data.length dc, .slice rp rel.length rc], .int .i64 n] w _
  have HW := hid (fun k w => rwidth_any k w)
  by_cases hl : rel.length ≤ 4096
  · by_cases hkz : kind = 4 ∧ 0 < rel.length
    · have HP : Hid (rrelP kind size n rel = false) := by simp only [Hid, rrelP, if_pos hkz]
      obtain ⟨rfl, hl0⟩ := hkz
      go_enter Try.func68, Try.ntmps68
      go_wp2
      go_ret
      exact ⟨ret_bool HP.out.symm, (Below.refl _ _).alloc (Nat.le_refl _) _⟩
    · have HP : Hid (rrelP kind size n rel = relN size n rel rel.length) := by
        simp only [Hid, rrelP, if_neg hkz, relP, decide_eq_true hl, Bool.true_and]
      by_cases hk4 : kind = 4
      · subst hk4
        obtain rfl : rel = [] := List.eq_nil_of_length_eq_zero (by omega)
        go_enter Try.func68, Try.ntmps68
        go_wp2
        refine wp_loop_once ?_
        go_wp2
        go_ret
        exact ⟨ret_bool (HP.out.trans rfl).symm, (Below.refl _ _).alloc (Nat.le_refl _) _⟩
      have hk4' : (kind == 4) = false := by simpa using hk4
      clear hkz hk4
      go_enter Try.func68, Try.ntmps68
      go_wp2
      have hrow0 := hrow
      go_loopw [5, 6] (fun e i wr => ∃ k : Nat, k ≤ rel.length ∧ i = .int .i64 k ∧ e = .int .i64 (endR rel k) ∧ relN size n rel k = true ∧ Below w.heap.size w wr ∧ wr.heap[w.heap.size]? = some (.cells #[.string name, .int .i64 kind, .int .i64 align, .int .i64 size, .slice dp data.length dc, .slice rp rel.length rc] 40 (0, 0))) (fun _ i _ => rel.length - (intOf i).toNat)
      case atStart => exact ⟨0, Nat.zero_le _, rfl, rfl, rfl, (Below.refl _ _).alloc (Nat.le_refl _) _, heap_alloc_new w _⟩
      case round =>
        obtain ⟨k, hk, rfl, rfl, hok, hb, hblk⟩ := hrel
        obtain ⟨f1, f2, f3⟩ := endR_facts size n rel h0 k hk hok
        have HOK := hid hok
        clear hok
        have d3 := cell_of_row wr w.heap.size 3 _ _ _ hblk
        have d5 := cell_of_row wr w.heap.size 5 _ _ _ hblk
        have hlw := (Array.getElem?_eq_some_iff.1 hblk).1
        simp only [List.getElem?_toArray, List.getElem?_cons_zero, List.getElem?_cons_succ] at d3 d5
        have HBK := hid hblk
        clear hblk
        by_cases hlt : k < rel.length
        · have HS := hid (relN_succ size n rel k hlt)
          have HF := hid (relN_false size n rel k hlt)
          have HE := hid (endR_succ rel k hlt)
          have hsz := hb.size
          obtain ⟨b, off, rfl, hbs, hzz⟩ := hrow.at (by have := flat_len Rl.cells 4 (fun _ => rfl) rel; omega)
          clear hzz
          obtain ⟨c0, c1, c2, c3⟩ := rl_cells (hrow.below hb) k hlt
          have hbs2 : b < wr.heap.size := by omega
          obtain ⟨r, hr⟩ : ∃ r, r = rel[k] := ⟨_, rfl⟩
          have hro := hrk rel[k] (List.getElem_mem _)
          rw [← hr] at c0 c1 c2 c3 HS HF HE hro
          obtain ⟨e, he⟩ : ∃ e, e = endR rel k := ⟨_, rfl⟩
          rw [← he] at HS HF f1 f2 f3 ⊢
          obtain ⟨ro, rt, rs, ra⟩ := r
          obtain ⟨W, hW⟩ : ∃ W, W = widthP rt := ⟨_, rfl⟩
          have hwv := width_vals rt
          have HWW := hid (fun w1 => HW.out rt w1)
          unfold rOk at HS HF
          dsimp only at c0 c1 c2 c3 HS HF HE hro
          rw [← hW] at hwv HWW HS HF HE
          have HR := hid hr
          have HEE := hid he
          have HWV := hid hW
          clear hr he hW
          obtain ⟨⟨i1, i2⟩, ⟨i3, i4⟩, ⟨i5, i6⟩, i7, i8⟩ := hro
          have hW8 : 0 ≤ W ∧ W ≤ 8 := by omega
          obtain ⟨hW0, hW9⟩ := hW8
          have HWv := hid hwv
          have HF3 := hid f3
          have HNO := hid (fun h => HP.out.trans (HF.out h _ (Nat.succ_le_of_lt hlt)))
          clear hwv f3
          have hro0 : 0 ≤ e := f1
          go_wp2_with (go_at_call 12; refine (HWW.out _).mono ?_; rintro e w' ⟨rfl, rfl⟩)
          all_goals first
            | (go_ret; refine ⟨ret_bool (HNO.out ?_).symm, hb.alloc hsz _⟩; clear HNO HWW HW HEE HOK HR HBK HS HF HE HF3 HWV HP; first | (simp; omega) | (simp_all; done) | (simp only [beq_iff_eq, beq_eq_false_iff_ne, bne_iff_ne, ne_eq] at *; simp; omega))
            | (go_roundw
               case rel => exact ⟨k + 1, by omega, by go_num, by rw [HE.out], by rw [HS.out, HOK.out, Bool.true_and]; clear HNO HWW HW HEE HOK HR HBK HS HF HE HF3 HWV HP; first | (simp_all; done) | (simp only [beq_iff_eq, beq_eq_false_iff_ne] at *; simp; omega), hb.alloc hsz _, (Below.heap_alloc _ _ _ (by omega)).trans HBK.out⟩
               case measure => simp [intOf]; omega)
        · go_wp2
          go_ret
          obtain rfl : k = rel.length := by omega
          exact ⟨ret_bool (by rw [HP.out]; exact HOK.out.symm), hb⟩
  · have HP : Hid (rrelP kind size n rel = false) := by simp [Hid, rrelP, relP, hl]
    have hl' : 4096 < rel.length := by omega
    go_enter Try.func68, Try.ntmps68
    go_wp2
    go_ret
    exact ⟨ret_bool HP.out.symm, (Below.refl _ _).alloc (Nat.le_refl _) _⟩
end Go.Proofs.Yteccpmmedpkddaa
namespace Go.Proofs.Yteccpmmedpkddaa
open Go.RowKit

def alP (a : Int) : Bool := decide (a = 1) || decide (a = 2) || decide (a = 4) || decide (a = 8) || decide (a = 16) || decide (a = 32) || decide (a = 64) || decide (a = 128) || decide (a = 256) || decide (a = 512) || decide (a = 1024) || decide (a = 2048) || decide (a = 4096)

set_option maxRecDepth 20000 in
set_option maxHeartbeats 1000000 in
theorem ralign_any (a : Int) (w : World) : Calls Try.prog 67 #[.int .i64 a] w fun e w' => e = .returned (.bool (alP a)) ∧ w = w' := by
  go_enter Try.func67, Try.ntmps67
  go_wp2
  refine wp_loop_rounds 14 ?_
  all_goals try (rw [rounds_succ]; go_wp2)
  all_goals try (rw [rounds_succ]; go_wp2)
  all_goals try (rw [rounds_succ]; go_wp2)
  all_goals try (rw [rounds_succ]; go_wp2)
  all_goals try (rw [rounds_succ]; go_wp2)
  all_goals try (rw [rounds_succ]; go_wp2)
  all_goals try (rw [rounds_succ]; go_wp2)
  all_goals try (rw [rounds_succ]; go_wp2)
  all_goals try (rw [rounds_succ]; go_wp2)
  all_goals try (rw [rounds_succ]; go_wp2)
  all_goals try (rw [rounds_succ]; go_wp2)
  all_goals try (rw [rounds_succ]; go_wp2)
  all_goals try (rw [rounds_succ]; go_wp2)
  all_goals try (rw [rounds_succ]; go_wp2)
  all_goals (go_ret; refine ⟨ret_bool ?_, rfl⟩)
  all_goals (simp_all [alP])

def on1 (a : Int) : Int := IntKind.u64.wrap (bits BinOp.and IntKind.u64 (a / 2) 6148914691236517205 + bits BinOp.and IntKind.u64 a 6148914691236517205)
def on2 (x : Int) : Int := IntKind.u64.wrap (bits BinOp.and IntKind.u64 (x / 4) 3689348814741910323 + bits BinOp.and IntKind.u64 x 3689348814741910323)
def on3 (x : Int) : Int := bits BinOp.and IntKind.u64 (IntKind.u64.wrap (x / 16 + x)) 1085102592571150095
def on4 (x : Int) : Int := IntKind.u64.wrap (x + x / 256)
def on5 (x : Int) : Int := IntKind.u64.wrap (x + x / 65536)
def on6 (x : Int) : Int := IntKind.u64.wrap (x + x / 4294967296)
def onesE (a : Int) : Int := bits BinOp.and IntKind.i64 (wrap64 (on6 (on5 (on4 (on3 (on2 (on1 a))))))) 127
theorem ones_all : (List.range 4096).all (fun n => decide (onesE ((n : Int) + 1) = 1) == alP ((n : Int) + 1)) = true := by decide +kernel
theorem ones_al (a : Int) (h1 : 1 ≤ a) (h2 : a ≤ 4096) : (onesE a != 1) = !alP a := by
  obtain ⟨n, rfl⟩ : ∃ n : Nat, a = (n : Int) + 1 := ⟨(a - 1).toNat, by omega⟩
  have h := List.all_eq_true.1 ones_all n (List.mem_range.2 (by omega))
  simp only [beq_iff_eq] at h
  rw [← h, bne]
  congr 1

set_option maxHeartbeats 1000000 in
theorem ones_any (a : Int) (w : World) (h1 : 1 ≤ a) (h2 : a ≤ 4096) : Calls Try.prog 62 #[.int .u64 a] w fun e w' => e = .returned (.int .i64 (onesE a)) ∧ w = w' := by
  go_enter Try.func62, Try.ntmps62
  go_wp2
  go_ret
  exact ⟨rfl, rfl⟩
end Go.Proofs.Yteccpmmedpkddaa
namespace Go.Proofs.Yteccpmmedpkddaa
open Go.RowKit

def secTail (s : Sc) (n : Int) : Bool := if s.kind = 4 then decide (s.data.length = 0) && decide (s.rel.length = 0) else decide ((s.data.length : Int) = s.size) && relP s.size n s.rel
def secP (s : Sc) (n : Int) : Bool := nameP s.name && decide (s.kind = kindP s.name) && alP s.align && decide (0 ≤ s.size) && decide (s.size ≤ 1048576) && secTail s n

theorem below_more {B : Nat} {W w1 w2 : World} (h2 : Below w1.heap.size w1 w2) (h1 : Below B W w1) (hB : B ≤ W.heap.size) : Below B W w2 := h1.trans (h2.mono (Nat.le_trans hB h1.size))
theorem alP_out (a : Int) (h : ¬ (1 ≤ a ∧ a ≤ 4096)) : alP a = false := by
  rw [Bool.eq_false_iff]
  intro e
  simp only [alP, Bool.or_eq_true, decide_eq_true_eq] at e
  omega
theorem quiet_sym {P : Program} {f : FuncId} {args : Array Value} {w : World} {n : Nat} {v : Value} (h : Calls P f args (w.drewN n) fun e w' => e = .returned v ∧ w.drewN n = w') : Calls P f args (w.drewN n) fun e w'' => e = .returned v ∧ ∃ m, w'' = w.drewN m :=
  h.mono fun _ _ ⟨he, hm⟩ => ⟨he, n, hm.symm⟩
theorem alP_range (a : Int) (h : alP a = true) : 1 ≤ a ∧ a ≤ 4096 := by
  simp only [alP, Bool.or_eq_true, decide_eq_true_eq] at h
  omega

set_option maxRecDepth 20000 in
set_option maxHeartbeats 2000000 in
theorem section_any (s : Sc) (n : Int) (w : World) (hs : s.ok w) (hn : 0 ≤ n ∧ n ≤ 4398046510976) :
    Calls Try.prog 36 #[.agg s.cells.toArray, .int .i64 n] w fun e w' => e = .returned (.bool (secP s n)) ∧ Below w.heap.size w w' := by
  have HR := hid (fun w1 (hb : Below w.heap.size w w1) h0 h1 => relocs_any s n w1 (hs.below hb) h0 h1 hn)
  have HN := hid (fun w1 => name_any s.name w1 hs.name)
  have HK := hid (fun w1 => kind_any s.name w1)
  have hk := hs.kind
  have ha := hs.align
  have hz := hs.size
  have HP : Hid (secP s n = (nameP s.name && decide (s.kind = kindP s.name) && alP s.align && decide (0 ≤ s.size) && decide (s.size ≤ 1048576) && secTail s n)) := rfl
  unfold secTail at HP
  clear hs
  obtain ⟨name, kind, align, size, data, dp, dc, rel, rp, rc⟩ := s
  unfold Sc.cells at HR
  dsimp only at HR HN HK hk ha hz HP ⊢
  generalize nameP name = nb at HN HP
  generalize kindP name = kb at HK HP
  generalize relP size n rel = rb at HR HP
  show Calls Try.prog 36 #[.agg #[.string name, .int .i64 kind, .int .i64 align, .int .i64 size, .slice dp data.length dc, .slice rp rel.length rc], .int .i64 n] w _
  have hbx : Below w.heap.size w (w.alloc (.cells #[.string name, .int .i64 kind, .int .i64 align, .int .i64 size, .slice dp data.length dc, .slice rp rel.length rc] 40)) := (Below.refl _ _).alloc (Nat.le_refl _) _
  cases nb with
  | false =>
    go_enter Try.func36, Try.ntmps36
    go_wp2
    go_quiet ((go_at_call 61; exact quiet_sym (HN.out _)))
    go_wp2
    go_ret
    exact ⟨ret_bool (by rw [HP.out]; rfl), below_drewN hbx _⟩
  | true =>
    obtain ⟨wd, hwd⟩ : ∃ wd, wd = w.alloc (.cells #[.string name, .int .i64 kind, .int .i64 align, .int .i64 size, .slice dp data.length dc, .slice rp rel.length rc] 40) := ⟨_, rfl⟩
    have hblk : wd.heap[w.heap.size]? = some (.cells #[.string name, .int .i64 kind, .int .i64 align, .int .i64 size, .slice dp data.length dc, .slice rp rel.length rc] 40 (0, 0)) := by rw [hwd]; exact heap_alloc_new w _
    have hall : ∀ w', Below wd.heap.size wd w' → w'.heap[w.heap.size]? = some (.cells #[.string name, .int .i64 kind, .int .i64 align, .int .i64 size, .slice dp data.length dc, .slice rp rel.length rc] 40 (0, 0)) := fun w' hb => (hb.block _ (Array.getElem?_eq_some_iff.1 hblk).1).trans hblk
    have g0 : ∀ w', Below wd.heap.size wd w' → w'.cell? ⟨w.heap.size, 0, none⟩ = some (.string name) := fun w' hb => cell_of_row w' _ 0 _ _ _ (hall w' hb)
    have g1 : ∀ w', Below wd.heap.size wd w' → w'.cell? ⟨w.heap.size, 1, none⟩ = some (.int .i64 kind) := fun w' hb => cell_of_row w' _ 1 _ _ _ (hall w' hb)
    go_enter Try.func36, Try.ntmps36
    go_upto_region 1 with (fail)
    rw [← hwd] at hbx ⊢
    have HALL := hid hall
    have hblk0 : Hid _ := hid hblk
    clear hwd hall hblk
    go_cut [5] (fun v wx => v = .bool (kind != kb) ∧ Below wd.heap.size wd wx)
    case first =>
      go_region_held3 (fun w' => Below wd.heap.size wd w') (first | exact (Below.refl _ _).drew | assumption) (first | (go_at_call 61; with_reducible refine (HN.out _).mono ?_; rintro e w' ⟨rfl, rfl⟩) | (go_at_call 9; with_reducible refine (HK.out _).mono ?_; rintro e w' ⟨rfl, hbq⟩; have hq2 : Below wd.heap.size wd w' := below_more hbq (by assumption) (Nat.le_refl _); clear hbq))
      all_goals (go_wp2_with fail; go_meet)
      all_goals exact ⟨rfl, by assumption⟩
    case rest =>
      obtain ⟨rfl, hbc⟩ := hcut
      have hall := HALL.out _ hbc
      have hbwx := below_more hbc hbx (Nat.le_refl _)
      have HRX := hid (HR.out _ hbwx)
      have d0 := cell_of_row wc w.heap.size 0 _ _ _ hall
      have d1 := cell_of_row wc w.heap.size 1 _ _ _ hall
      have d2 := cell_of_row wc w.heap.size 2 _ _ _ hall
      have d3 := cell_of_row wc w.heap.size 3 _ _ _ hall
      have d4 := cell_of_row wc w.heap.size 4 _ _ _ hall
      have d5 := cell_of_row wc w.heap.size 5 _ _ _ hall
      simp only [List.getElem?_toArray, List.getElem?_cons_zero, List.getElem?_cons_succ] at d0 d1 d2 d3 d4 d5
      clear g0 g1 hall hbc hbx HR
      by_cases hkk : kind = kb
      · have hk2 : (kind != kb) = false := by simpa using hkk
        have HKK := hid hkk
        clear hkk
        by_cases h1 : 1 ≤ align
        · by_cases h2 : align ≤ 4096
          · have HON := hid (fun w => ones_any align w h1 h2)
            have HAL := hid (ones_al align h1 h2)
            generalize onesE align = oe at HON HAL
            generalize alP align = al at HAL HP
            have hoe : (oe != 1) = !al := HAL.out
            clear HAL
            cases al with
            | false =>
              simp only [Bool.not_false] at hoe
              go_wp2_with (go_at_call 62; refine (HON.out _).mono ?_; rintro e w' ⟨rfl, rfl⟩)
              go_ret
              exact ⟨ret_bool (by rw [HP.out]; simp), hbwx⟩
            | true =>
              simp only [Bool.not_true] at hoe
              by_cases h3 : 0 ≤ size
              · by_cases h4 : size ≤ 1048576
                · go_wp2_with (first
                    | (go_at_call 62; refine (HON.out _).mono ?_; rintro e w' ⟨rfl, rfl⟩)
                    | (go_at_call 63; refine (HRX.out (by omega) (by omega)).mono ?_; rintro e w' ⟨rfl, hbr⟩))
                  all_goals (go_ret; refine ⟨ret_bool ?_, ?_⟩)
                  all_goals first
                    | exact hbwx
                    | exact below_more (by assumption) hbwx (Nat.le_refl _)
                    | (have hkk := HKK.out; rw [HP.out]; clear HN HK HRX HON HKK HALL hblk0 HP; simp_all; done)
                    | (have hkk := HKK.out; have h9 : ((rel.length : Int) == 0) = decide (rel.length = 0) := (by rw [Bool.eq_iff_iff]; simp); rw [HP.out, h9]; clear HN HK HRX HON HKK HALL hblk0 HP; simp_all; done)
                · have h4' : 1048576 < size := by omega
                  have h9 : decide (size ≤ 1048576) = false := decide_eq_false h4
                  have H9 := hid h9
                  clear h9 h4
                  go_wp2_with (go_at_call 62; refine (HON.out _).mono ?_; rintro e w' ⟨rfl, rfl⟩)
                  go_ret
                  exact ⟨ret_bool (by rw [HP.out, H9.out]; simp), hbwx⟩
              · have h3' : size < 0 := by omega
                have h9 : decide (0 ≤ size) = false := decide_eq_false h3
                have H9 := hid h9
                clear h9 h3
                go_wp2_with (go_at_call 62; refine (HON.out _).mono ?_; rintro e w' ⟨rfl, rfl⟩)
                go_ret
                exact ⟨ret_bool (by rw [HP.out, H9.out]; simp), hbwx⟩
          · have hal := alP_out align (by omega)
            have h2' : 4096 < align := by omega
            go_wp2
            go_ret
            exact ⟨ret_bool (by rw [HP.out, hal]; simp), hbwx⟩
        · have hal := alP_out align (by omega)
          have h1' : align < 1 := by omega
          go_wp2
          go_ret
          exact ⟨ret_bool (by rw [HP.out, hal]; simp), hbwx⟩
      · have hk2 : (kind != kb) = true := by simpa using hkk
        go_wp2
        go_ret
        exact ⟨ret_bool (by rw [HP.out, decide_eq_false hkk]; rfl), hbwx⟩
end Go.Proofs.Yteccpmmedpkddaa
namespace Go.Proofs.Yteccpmmedpkddaa
open Go.RowKit

def aheadP (a b : Sy) : Bool := if a.glob = b.glob then Op.bytesLess a.name.toList b.name.toList else b.glob
def orderP (a b : Sy) : Int := if a.glob = b.glob then Lib.compareBytes a.name.data.toList b.name.data.toList else if b.glob then -1 else 1

theorem ahead_any (a b : Sy) (w : World) : Calls Try.prog 42 #[.agg a.cells.toArray, .agg b.cells.toArray] w fun e w' => e = .returned (.bool (aheadP a b)) ∧ Below w.heap.size w w' := by
  unfold aheadP
  obtain ⟨an, asec, av, ag⟩ := a
  obtain ⟨bn, bsec, bv, bg⟩ := b
  show Calls Try.prog 42 #[.agg #[.string an, .int .i64 asec, .int .i64 av, .bool ag], .agg #[.string bn, .int .i64 bsec, .int .i64 bv, .bool bg]] w _
  cases ag <;> cases bg
  all_goals
    go_enter Try.func42, Try.ntmps42
    go_wp2
    go_ret
    exact ⟨ret_bool rfl, ((Below.refl _ _).alloc (Nat.le_refl _) _).alloc (by simp) _⟩
theorem order_any (a b : Sy) (w : World) : Calls Try.prog 39 #[.agg a.cells.toArray, .agg b.cells.toArray] w fun e w' => e = .returned (.int .i64 (orderP a b)) ∧ Below w.heap.size w w' := by
  unfold orderP
  obtain ⟨an, asec, av, ag⟩ := a
  obtain ⟨bn, bsec, bv, bg⟩ := b
  show Calls Try.prog 39 #[.agg #[.string an, .int .i64 asec, .int .i64 av, .bool ag], .agg #[.string bn, .int .i64 bsec, .int .i64 bv, .bool bg]] w _
  cases ag <;> cases bg
  all_goals
    go_enter Try.func39, Try.ntmps39
    go_wp2_with (go_at_call 65; refine (Try.strings_Compare _ _ _).mono ?_; rintro e w' ⟨rfl, rfl⟩)
    go_ret
    exact ⟨ret_int rfl, ((Below.refl _ _).alloc (Nat.le_refl _) _).alloc (by simp) _⟩

def hasZero (s : ByteArray) : Bool := s.data.toList.contains 0
theorem idx0_yes (s : ByteArray) (w : World) (h : hasZero s = true) : Calls Try.prog 64 #[.string s, .int .u8 0] w fun e w' => ∃ r : Int, 0 ≤ r ∧ e = .returned (.int .i64 r) ∧ w = w' := by
  refine (Try.strings_IndexByte s 0 w).mono fun e w' ⟨he, hw⟩ => ⟨_, ?_, he, hw.symm⟩
  have := Lib.contains_iff_indexByte s.data.toList 0
  unfold hasZero at h
  rw [h] at this
  exact of_decide_eq_true this.symm
theorem idx0_no (s : ByteArray) (w : World) (h : hasZero s = false) : Calls Try.prog 64 #[.string s, .int .u8 0] w fun e w' => ∃ r : Int, r < 0 ∧ e = .returned (.int .i64 r) ∧ w = w' := by
  refine (Try.strings_IndexByte s 0 w).mono fun e w' ⟨he, hw⟩ => ⟨_, ?_, he, hw.symm⟩
  have := Lib.contains_iff_indexByte s.data.toList 0
  unfold hasZero at h
  rw [h] at this
  have h2 := of_decide_eq_false this.symm
  have e0 : (0 : Int).toNat.toUInt8 = 0 := rfl
  rw [e0]
  omega

def secSize (l : List Sc) (k : Int) : Int := (l.map Sc.size).getD k.toNat 0
def symTail (x : Sy) (l : List Sc) : Bool :=
  if x.sec = -1 then x.glob && decide (x.val = 0) else if x.sec = -2 then true else decide (0 ≤ x.sec) && decide (x.sec < l.length) && decide (0 ≤ x.val) && decide (x.val ≤ secSize l x.sec)
def symP (x : Sy) (l : List Sc) : Bool := decide (1 ≤ x.name.size) && decide (x.name.size ≤ 255) && !hasZero x.name && symTail x l

/-- The size of the section that a symbol names. -/
theorem sec_cell {w : World} {p : Option Addr} {l : List Sc} (hrow : Row w p (l.flatMap Sc.cells)) (k : Nat) (hk : k < l.length) :
    ∃ b o, p = some ⟨b, o, none⟩ ∧ b < w.heap.size ∧ w.cell? ⟨b, o + k * 6 + 3, none⟩ = some (.int .i64 (secSize l k)) := by
  obtain ⟨b, o, rfl, hb, _⟩ := hrow.at (by have := flat_len Sc.cells 6 (fun _ => rfl) l; omega)
  obtain ⟨_, _, _, h, _⟩ := sc_cells hrow k hk
  refine ⟨b, o, rfl, hb, ?_⟩
  rw [h]
  simp [secSize, hk]

set_option maxRecDepth 20000 in
set_option maxHeartbeats 8000000 in
theorem symbol_any (x : Sy) (p : Option Addr) (c : Nat) (l : List Sc) (w : World) (hx : x.ok) (hrow : Row w p (l.flatMap Sc.cells)) (hl : l.length ≤ 4398046510976) :
    Calls Try.prog 37 #[.agg x.cells.toArray, .slice p l.length c] w fun e w' => e = .returned (.bool (symP x l)) ∧ Below w.heap.size w w' := by
  have HP : Hid (symP x l = (decide (1 ≤ x.name.size) && decide (x.name.size ≤ 255) && !hasZero x.name && symTail x l)) := rfl
  have HI := hid (fun w => idx0_yes x.name w)
  have HJ := hid (fun w => idx0_no x.name w)
  unfold symTail at HP
  obtain ⟨hxn, hx1, hx2⟩ := hx
  obtain ⟨name, sec, val, glob⟩ := x
  dsimp only at HP HI HJ hxn hx1 hx2 ⊢
  show Calls Try.prog 37 #[.agg #[.string name, .int .i64 sec, .int .i64 val, .bool glob], .slice p l.length c] w _
  have hbx : Below w.heap.size w (w.alloc (.cells #[.string name, .int .i64 sec, .int .i64 val, .bool glob] 36)) := (Below.refl _ _).alloc (Nat.le_refl _) _
  by_cases h1 : 1 ≤ name.size
  case neg =>
    have h1' : name.size < 1 := by omega
    have H1 := hid (decide_eq_false h1)
    go_enter Try.func37, Try.ntmps37
    go_wp2
    go_ret
    exact ⟨ret_bool (by rw [HP.out, H1.out]; simp), hbx⟩
  by_cases h2 : name.size ≤ 255
  case neg =>
    have h2' : 255 < name.size := by omega
    have H2 := hid (decide_eq_false h2)
    go_enter Try.func37, Try.ntmps37
    go_wp2
    go_ret
    exact ⟨ret_bool (by rw [HP.out, H2.out]; simp), hbx⟩
  have H1 := hid (decide_eq_true h1)
  have H2 := hid (decide_eq_true h2)
  obtain ⟨z, hz⟩ : ∃ z, hasZero name = z := ⟨_, rfl⟩
  rw [hz] at HI HJ HP
  clear hz
  cases z with
  | true =>
    go_enter Try.func37, Try.ntmps37
    go_wp2_with (go_at_call 64; refine (HI.out _ rfl).mono ?_; rintro e w' ⟨r, hr, rfl, rfl⟩)
    go_ret
    exact ⟨ret_bool (by rw [HP.out]; simp), hbx⟩
  | false =>
    by_cases h3 : sec = -1
    case pos =>
      subst h3
      have H3 : Hid (symP ⟨name, -1, val, glob⟩ l = (glob && decide (val = 0))) := by rw [Hid, HP.out, H1.out, H2.out]; simp
      cases glob
      all_goals
        go_enter Try.func37, Try.ntmps37
        go_wp2_with (go_at_call 64; refine (HJ.out _ rfl).mono ?_; rintro e w' ⟨r, hr, rfl, rfl⟩)
        all_goals (go_ret; refine ⟨ret_bool ?_, hbx⟩; rw [H3.out])
        all_goals first | rfl | (rw [Bool.eq_iff_iff]; simp)
    have h3' : (sec == -1) = false := by simpa using h3
    by_cases h4 : sec = -2
    case pos =>
      subst h4
      have H3 : Hid (symP ⟨name, -2, val, glob⟩ l = true) := by rw [Hid, HP.out, H1.out, H2.out]; simp
      go_enter Try.func37, Try.ntmps37
      go_wp2_with (go_at_call 64; refine (HJ.out _ rfl).mono ?_; rintro e w' ⟨r, hr, rfl, rfl⟩)
      go_ret
      exact ⟨ret_bool H3.out.symm, hbx⟩
    have h4' : (sec == -2) = false := by simpa using h4
    have H3 : Hid (symP ⟨name, sec, val, glob⟩ l = (decide (0 ≤ sec) && decide (sec < l.length) && decide (0 ≤ val) && decide (val ≤ secSize l sec))) := by rw [Hid, HP.out, H1.out, H2.out, if_neg h3, if_neg h4]; simp
    by_cases h5 : 0 ≤ sec
    case neg =>
      have h5' : sec < 0 := by omega
      have hd5 := decide_eq_false h5
      have H5 := hid hd5
      clear h5
      go_enter Try.func37, Try.ntmps37
      go_wp2_with (go_at_call 64; refine (HJ.out _ rfl).mono ?_; rintro e w' ⟨r, hr, rfl, rfl⟩)
      go_quiet (fail)
      go_wp2
      go_ret
      exact ⟨ret_bool (by rw [H3.out, H5.out]; simp), below_drewN hbx _⟩
    have H5 := hid (decide_eq_true h5)
    by_cases h6 : sec < l.length
    case neg =>
      have h6' : (l.length : Int) ≤ sec := by omega
      have hd6 := decide_eq_false h6
      have H6 := hid hd6
      clear h6
      go_enter Try.func37, Try.ntmps37
      go_wp2_with (go_at_call 64; refine (HJ.out _ rfl).mono ?_; rintro e w' ⟨r, hr, rfl, rfl⟩)
      go_quiet (fail)
      go_wp2
      go_ret
      exact ⟨ret_bool (by rw [H3.out, H6.out]; simp), below_drewN hbx _⟩
    have H6 := hid (decide_eq_true h6)
    by_cases h7 : 0 ≤ val
    case neg =>
      have h7' : val < 0 := by omega
      have hd7 := decide_eq_false h7
      have H7 := hid hd7
      clear h7
      go_enter Try.func37, Try.ntmps37
      go_wp2_with (go_at_call 64; refine (HJ.out _ rfl).mono ?_; rintro e w' ⟨r, hr, rfl, rfl⟩)
      go_quiet (fail)
      go_wp2
      go_ret
      exact ⟨ret_bool (by rw [H3.out, H7.out]; simp), below_drewN hbx _⟩
    have H7 := hid (decide_eq_true h7)
    obtain ⟨k, rfl⟩ : ∃ k : Nat, sec = k := ⟨sec.toNat, by omega⟩
    have hk : k < l.length := by omega
    have hkn : ((k : Int)).toNat = k := by omega
    obtain ⟨b, o, rfl, hb, hc⟩ := sec_cell hrow k hk
    generalize secSize l k = S at hc H3
    clear hrow
    have H8 : Hid (symP ⟨name, k, val, glob⟩ l = decide (val ≤ S)) := by rw [Hid, H3.out, H5.out, H6.out, H7.out]; simp
    clear H3
    go_enter Try.func37, Try.ntmps37
    go_wp2_with (go_at_call 64; refine (HJ.out _ rfl).mono ?_; rintro e w' ⟨r, hr, rfl, rfl⟩)
    go_quiet (fail)
    go_wp2
    go_ret
    exact ⟨ret_bool H8.out.symm, below_drewN hbx _⟩
end Go.Proofs.Yteccpmmedpkddaa
