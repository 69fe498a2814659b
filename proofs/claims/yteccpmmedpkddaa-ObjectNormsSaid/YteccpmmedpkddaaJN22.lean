/-
  In plain words: both checks of an object are one.
  The law's own few, and an object of one section.
  The law's own beginning: kinds, widths, an object that may be and one that may not.
-/
import Derived.Test.YteccpmmedpkddaaJN21
import Derived.Deep.RegionHeld3
namespace Go.Proofs.Yteccpmmedpkddaa
open Go.RowKit

theorem less_cmp : ∀ x y : List UInt8, x ≠ y → Op.bytesLess x y = !decide (Lib.compareBytes y x < 0)
  | [], [], h => absurd rfl h
  | [], b :: y, _ => by simp [Op.bytesLess, Lib.compareBytes]
  | a :: x, [], _ => by simp [Op.bytesLess, Lib.compareBytes]
  | a :: x, b :: y, h => by
    rw [Op.bytesLess, Lib.compareBytes]
    by_cases h1 : b < a
    · have h2 : ¬ a < b := by rw [UInt8.lt_iff_toNat_lt] at *; omega
      have h3 : ¬ a = b := by rintro rfl; exact h2 h1
      simp [h1, h2, h3]
    · by_cases h2 : a < b
      · simp [h1, h2]
      · have h3 : a = b := by
          apply UInt8.toNat_inj.1
          rw [UInt8.lt_iff_toNat_lt] at *; omega
        subst h3
        have hxy : x ≠ y := fun e => h (by rw [e])
        rw [if_neg h1, if_neg h2, ← less_cmp x y hxy]
        simp [h1]

theorem ahead_order (a b : Sy) (h : a.name ≠ b.name) : aheadP a b = !decide (orderP b a < 0) := by
  unfold aheadP orderP
  have hn : a.name.toList ≠ b.name.toList := fun e => h (by
    have := strNe h
    simp [e] at this)
  by_cases hg : a.glob = b.glob
  · rw [if_pos hg, if_pos hg.symm, less_cmp _ _ hn, Lib.toList_data, Lib.toList_data]
  · have hg' : ¬ b.glob = a.glob := fun e => hg e.symm
    rw [if_neg hg, if_neg hg']
    cases ha : a.glob <;> cases hb : b.glob <;> simp_all

theorem allTo_iff {f : Nat → Bool} {n : Nat} : allTo f n = true ↔ ∀ j, j < n → f j = true := by simp [allTo]

/-- Of an object whose symbols may be, each once: order, as one says it and as the other. -/
theorem step_eq (o : Ob) (k : Nat) (hk : k < o.syms.length) (hf : symAt o k = true) : aheadAt o.syms k = (k == 0 || sortAt o.syms k) := by
  by_cases h0 : k = 0
  · subst h0; rfl
  · rw [aheadAt_eq o.syms k (k - 1) rfl (by omega) hk (by omega), sortAt_eq k hk (by omega)]
    have hz : (k == 0) = false := by simpa using h0
    rw [hz, Bool.false_or]
    refine ahead_order _ _ (fun e => ?_)
    have h2 : freshAt (o.syms.map Sy.name) k = true := by
      unfold symAt at hf
      rw [Bool.and_eq_true] at hf
      exact hf.2
    rw [freshAt_eq _ _ (by simpa using hk)] at h2
    simp only [List.getElem_map, Bool.not_eq_true', inT] at h2
    rw [List.any_eq_false] at h2
    have := h2 (o.syms[k - 1]).name (by
      rw [List.mem_take_iff_getElem]
      exact ⟨k - 1, by simp; omega, by simp⟩)
    simp [e] at this

theorem ok_eq (o : Ob) : okR o = okO o := by
  unfold okR okO
  rw [Bool.and_assoc, Bool.and_assoc, Bool.and_assoc]
  congr 1
  congr 1
  rw [Bool.eq_iff_iff, Bool.and_eq_true, allTo_iff, allTo_iff]
  constructor
  · intro h
    have h1 : ∀ j, j < o.syms.length → symAt o j = true := fun j hj => by
      have := h j hj; unfold symAtR at this; rw [Bool.and_eq_true] at this; exact this.1
    refine ⟨h1, sortP_true (fun j h0 hj => ?_)⟩
    have := h j hj
    unfold symAtR at this
    rw [Bool.and_eq_true, step_eq o j hj (h1 j hj)] at this
    have hz : (j == 0) = false := by simp; omega
    rw [hz, Bool.false_or] at this
    exact this.2
  · rintro ⟨h1, h2⟩ j hj
    unfold symAtR
    rw [Bool.and_eq_true, step_eq o j hj (h1 j hj)]
    refine ⟨h1 j hj, ?_⟩
    unfold sortP at h2
    rw [List.all_eq_true] at h2
    exact h2 j (List.mem_range.2 hj)
theorem ck_eq (o : Ob) : ckR o = ckO o := by unfold ckR ckO; rw [ok_eq]
end Go.Proofs.Yteccpmmedpkddaa
namespace Go.Proofs.Yteccpmmedpkddaa
open Go.RowKit

def fewL (o : Ob) : Bool := decide (o.secs.length ≤ 80) && decide (o.syms.length ≤ 300)
theorem few_any (o : Ob) (w : World) (ho : o.ok w) : Calls Try.prog 13 #[.agg o.cells.toArray] w fun e w' => e = .returned (.bool (fewL o)) ∧ Below w.heap.size w w' := by
  have hs := ho.scap
  have hy := ho.ycap
  unfold fewL
  obtain ⟨secs, sp, sc, syms, yp, yc⟩ := o
  dsimp only at hs hy ⊢
  clear ho
  obtain ⟨hs1, hs2, _⟩ := hs
  obtain ⟨hy1, hy2, _⟩ := hy
  show Calls Try.prog 13 #[.agg #[.slice sp secs.length sc, .slice yp syms.length yc]] w _
  go_enter Try.func13, Try.ntmps13
  go_wp2
  all_goals (go_ret; refine ⟨ret_bool ?_, (Below.refl _ _).alloc (Nat.le_refl _) _⟩)
  all_goals first
    | (have h1 : secs.length ≤ 80 := by omega
       rw [decide_eq_true h1, Bool.true_and]; simp; omega)
    | (have h1 : secs.length ≤ 80 := by omega
       rw [decide_eq_true h1, Bool.true_and]; simp)
    | (have h1 : ¬ secs.length ≤ 80 := by omega
       rw [decide_eq_false h1]; rfl)
end Go.Proofs.Yteccpmmedpkddaa
namespace Go.Proofs.Yteccpmmedpkddaa
open Go.RowKit

def sNm : ByteArray := ⟨#[46, 116, 101, 120, 116]⟩
def oOne (b : Nat) : Ob := ⟨[⟨⟨#[46, 116, 101, 120, 116]⟩, 1, 4, 4, [1, 2, 3, 4], some ⟨b, 0, none⟩, 4, [⟨0, 283, 0, 0⟩], some ⟨b + 1, 0, none⟩, 1⟩], some ⟨b + 1 + 1, 0, none⟩, 1, [⟨⟨#[102]⟩, -1, 0, true⟩], some ⟨b + 1 + 1 + 1, 0, none⟩, 1⟩
def oTwo (b : Nat) : Ob := ⟨[⟨⟨#[46, 116, 101, 120, 116]⟩, 1, 4, 4, [1, 2, 3, 4], some ⟨b, 0, none⟩, 4, [⟨0, 283, 0, 0⟩], some ⟨b + 1, 0, none⟩, 1⟩], some ⟨b + 1 + 1, 0, none⟩, 1, [], none, 0⟩
theorem kind1 : kindP ⟨#[46, 116, 101, 120, 116, 46, 104, 111, 116]⟩ = 1 := by
  simp only [kindP, begL, Lib.toList_data]; decide
theorem kind2 : kindP ⟨#[46, 116, 101, 120, 116, 117, 97, 108]⟩ = 2 := by
  simp only [kindP, begL, Lib.toList_data]; decide
theorem kind3 : kindP ⟨#[46, 116, 101, 120, 116]⟩ = 1 := by
  simp only [kindP, begL, Lib.toList_data]; decide
theorem ck1 (b : Nat) : ckO (oOne b) = 0 := by
  unfold ckO
  have h : okO (oOne b) = true := by
    simp only [okO, fewO, oOne, allTo, secAt, symAt, List.length_cons, List.length_nil, List.range, List.range.loop, List.all_cons, List.all_nil, List.getElem?_cons_zero, secP, kind3]
    kernel_rfl
  rw [h]; rfl
theorem ck2 (b : Nat) : ckO (oTwo b) = 140 := by
  unfold ckO
  have h : okO (oTwo b) = false := by
    simp only [okO, fewO, oTwo, allTo, secAt, symAt, List.length_cons, List.length_nil, List.range, List.range.loop, List.all_cons, List.all_nil, List.getElem?_cons_zero, secP, kind3]
    kernel_rfl
  rw [h]; rfl

theorem row_of_block {w : World} {b : Nat} {cs : List Value} {T : TypeId} (h : w.heap[b]? = some (.cells cs.toArray T (0, 0))) : Row w (some ⟨b, 0, none⟩) cs := fun _ =>
  ⟨b, 0, rfl, fun i hi => by rw [cell_of_row w b (0 + i) _ _ _ h]; simp [hi]⟩
theorem oOne_ok {w : World} {b : Nat} (e0 : w.heap[b]? = some (.cells #[.int .u8 1, .int .u8 2, .int .u8 3, .int .u8 4] 5 (0, 0))) (e1 : w.heap[b + 1]? = some (.cells #[.int .i64 0, .int .i64 283, .int .i64 0, .int .i64 0] 54 (0, 0)))
    (e2 : w.heap[b + 1 + 1]? = some (.cells #[.string ⟨#[46, 116, 101, 120, 116]⟩, .int .i64 1, .int .i64 4, .int .i64 4, .slice (some ⟨b, 0, none⟩) 4 4, .slice (some ⟨b + 1, 0, none⟩) 1 1] 40 (0, 0)))
    (e3 : w.heap[b + 1 + 1 + 1]? = some (.cells #[.string ⟨#[102]⟩, .int .i64 (-1), .int .i64 0, .bool true] 36 (0, 0))) : (oOne b).ok w ∧ (oTwo b).ok w := by
  have hs : ∀ s ∈ (oOne b).secs, s.ok w := by
    intro s hs
    obtain rfl : s = ⟨⟨#[46, 116, 101, 120, 116]⟩, 1, 4, 4, [1, 2, 3, 4], some ⟨b, 0, none⟩, 4, [⟨0, 283, 0, 0⟩], some ⟨b + 1, 0, none⟩, 1⟩ := by simpa [oOne] using hs
    refine ⟨by dsimp only; decide, by unfold inI64; dsimp only; omega, by unfold inI64; dsimp only; omega, by unfold inI64; dsimp only; omega, row_of_block e0, ⟨by simp, by simp, by simp⟩, ?_, row_of_block e1, ⟨by simp, by simp, by simp⟩, ?_⟩
    · intro v hv
      simp at hv
      rcases hv with rfl | rfl | rfl | rfl <;> decide
    · intro r hr
      obtain rfl : r = ⟨0, 283, 0, 0⟩ := by simpa using hr
      unfold Rl.ok inI64
      simp
  refine ⟨⟨row_of_block e2, ⟨by simp [oOne], by simp [oOne], by simp [oOne]⟩, hs, row_of_block e3, ⟨by simp [oOne], by simp [oOne], by simp [oOne]⟩, ?_⟩, ⟨row_of_block e2, ⟨by simp [oTwo], by simp [oTwo], by simp [oTwo]⟩, hs, Row.nil _ _, ⟨by simp [oTwo], by simp [oTwo], by simp [oTwo]⟩, by simp [oTwo]⟩⟩
  intro s hs
  obtain rfl : s = ⟨⟨#[102]⟩, -1, 0, true⟩ := by simpa [oOne] using hs
  exact ⟨by decide, by unfold inI64; simp, by unfold inI64; simp⟩

set_option maxRecDepth 20000 in
set_option maxHeartbeats 4000000 in
theorem begun_any (w : World) : Calls Try.prog 8 #[] w fun e w' => e = .returned (.bool true) ∧ Below w.heap.size w w' := by
  have HK1 := hid (fun w => kind_any ⟨#[46, 116, 101, 120, 116, 46, 104, 111, 116]⟩ w)
  have HK2 := hid (fun w => kind_any ⟨#[46, 116, 101, 120, 116, 117, 97, 108]⟩ w)
  rw [kind1] at HK1
  rw [kind2] at HK2
  have HW : Hid (∀ w, Calls Try.prog 11 #[.int .i64 283] w fun e w' => e = .returned (.int .i64 4) ∧ w = w') := fun w => width_any 283 w
  obtain ⟨wd, hwd⟩ : ∃ wd, wd = ((((((w.alloc (.cells #[.int .u8 1, .int .u8 2, .int .u8 3, .int .u8 4] 5)).alloc (.cells #[.int .i64 0, .int .i64 283, .int .i64 0, .int .i64 0] 54)).alloc (.cells #[.string ⟨#[46, 116, 101, 120, 116]⟩, .int .i64 1, .int .i64 4, .int .i64 4, .slice (some ⟨w.heap.size, 0, none⟩) 4 4, .slice (some ⟨w.heap.size + 1, 0, none⟩) 1 1] 40)).alloc (.cells #[.string ⟨#[102]⟩, .int .i64 (-1), .int .i64 0, .bool true] 36)).alloc (.cells #[.slice (some ⟨w.heap.size + 1 + 1, 0, none⟩) 1 1, .slice (some ⟨w.heap.size + 1 + 1 + 1, 0, none⟩) 1 1] 25)).alloc (.cells #[.slice (some ⟨w.heap.size + 1 + 1, 0, none⟩) 1 1, .slice none 0 0] 25)) := ⟨_, rfl⟩
  have hbx : Below w.heap.size w wd := by
    rw [hwd]; exact ((((((Below.refl _ _).alloc (Nat.le_refl _) _).alloc (by simp) _).alloc (by simp <;> omega) _).alloc (by simp <;> omega) _).alloc (by simp <;> omega) _).alloc (by simp <;> omega) _
  have e0 : wd.heap[w.heap.size]? = some (.cells #[.int .u8 1, .int .u8 2, .int .u8 3, .int .u8 4] 5 (0, 0)) := by
    rw [hwd]
    have h := heap_alloc_new w (.cells #[.int .u8 1, .int .u8 2, .int .u8 3, .int .u8 4] 5 (0, 0))
    try simp only [World.size_alloc] at h
    have h := (Below.heap_alloc (w.alloc (.cells #[.int .u8 1, .int .u8 2, .int .u8 3, .int .u8 4] 5)) (.cells #[.int .i64 0, .int .i64 283, .int .i64 0, .int .i64 0] 54 (0, 0)) (w.heap.size) (by simp <;> omega)).trans h
    have h := (Below.heap_alloc ((w.alloc (.cells #[.int .u8 1, .int .u8 2, .int .u8 3, .int .u8 4] 5)).alloc (.cells #[.int .i64 0, .int .i64 283, .int .i64 0, .int .i64 0] 54)) (.cells #[.string ⟨#[46, 116, 101, 120, 116]⟩, .int .i64 1, .int .i64 4, .int .i64 4, .slice (some ⟨w.heap.size, 0, none⟩) 4 4, .slice (some ⟨w.heap.size + 1, 0, none⟩) 1 1] 40 (0, 0)) (w.heap.size) (by simp <;> omega)).trans h
    have h := (Below.heap_alloc (((w.alloc (.cells #[.int .u8 1, .int .u8 2, .int .u8 3, .int .u8 4] 5)).alloc (.cells #[.int .i64 0, .int .i64 283, .int .i64 0, .int .i64 0] 54)).alloc (.cells #[.string ⟨#[46, 116, 101, 120, 116]⟩, .int .i64 1, .int .i64 4, .int .i64 4, .slice (some ⟨w.heap.size, 0, none⟩) 4 4, .slice (some ⟨w.heap.size + 1, 0, none⟩) 1 1] 40)) (.cells #[.string ⟨#[102]⟩, .int .i64 (-1), .int .i64 0, .bool true] 36 (0, 0)) (w.heap.size) (by simp <;> omega)).trans h
    have h := (Below.heap_alloc ((((w.alloc (.cells #[.int .u8 1, .int .u8 2, .int .u8 3, .int .u8 4] 5)).alloc (.cells #[.int .i64 0, .int .i64 283, .int .i64 0, .int .i64 0] 54)).alloc (.cells #[.string ⟨#[46, 116, 101, 120, 116]⟩, .int .i64 1, .int .i64 4, .int .i64 4, .slice (some ⟨w.heap.size, 0, none⟩) 4 4, .slice (some ⟨w.heap.size + 1, 0, none⟩) 1 1] 40)).alloc (.cells #[.string ⟨#[102]⟩, .int .i64 (-1), .int .i64 0, .bool true] 36)) (.cells #[.slice (some ⟨w.heap.size + 1 + 1, 0, none⟩) 1 1, .slice (some ⟨w.heap.size + 1 + 1 + 1, 0, none⟩) 1 1] 25 (0, 0)) (w.heap.size) (by simp <;> omega)).trans h
    have h := (Below.heap_alloc (((((w.alloc (.cells #[.int .u8 1, .int .u8 2, .int .u8 3, .int .u8 4] 5)).alloc (.cells #[.int .i64 0, .int .i64 283, .int .i64 0, .int .i64 0] 54)).alloc (.cells #[.string ⟨#[46, 116, 101, 120, 116]⟩, .int .i64 1, .int .i64 4, .int .i64 4, .slice (some ⟨w.heap.size, 0, none⟩) 4 4, .slice (some ⟨w.heap.size + 1, 0, none⟩) 1 1] 40)).alloc (.cells #[.string ⟨#[102]⟩, .int .i64 (-1), .int .i64 0, .bool true] 36)).alloc (.cells #[.slice (some ⟨w.heap.size + 1 + 1, 0, none⟩) 1 1, .slice (some ⟨w.heap.size + 1 + 1 + 1, 0, none⟩) 1 1] 25)) (.cells #[.slice (some ⟨w.heap.size + 1 + 1, 0, none⟩) 1 1, .slice none 0 0] 25 (0, 0)) (w.heap.size) (by simp <;> omega)).trans h
    exact h
  have e1 : wd.heap[w.heap.size + 1]? = some (.cells #[.int .i64 0, .int .i64 283, .int .i64 0, .int .i64 0] 54 (0, 0)) := by
    rw [hwd]
    have h := heap_alloc_new (w.alloc (.cells #[.int .u8 1, .int .u8 2, .int .u8 3, .int .u8 4] 5)) (.cells #[.int .i64 0, .int .i64 283, .int .i64 0, .int .i64 0] 54 (0, 0))
    try simp only [World.size_alloc] at h
    have h := (Below.heap_alloc ((w.alloc (.cells #[.int .u8 1, .int .u8 2, .int .u8 3, .int .u8 4] 5)).alloc (.cells #[.int .i64 0, .int .i64 283, .int .i64 0, .int .i64 0] 54)) (.cells #[.string ⟨#[46, 116, 101, 120, 116]⟩, .int .i64 1, .int .i64 4, .int .i64 4, .slice (some ⟨w.heap.size, 0, none⟩) 4 4, .slice (some ⟨w.heap.size + 1, 0, none⟩) 1 1] 40 (0, 0)) (w.heap.size + 1) (by simp <;> omega)).trans h
    have h := (Below.heap_alloc (((w.alloc (.cells #[.int .u8 1, .int .u8 2, .int .u8 3, .int .u8 4] 5)).alloc (.cells #[.int .i64 0, .int .i64 283, .int .i64 0, .int .i64 0] 54)).alloc (.cells #[.string ⟨#[46, 116, 101, 120, 116]⟩, .int .i64 1, .int .i64 4, .int .i64 4, .slice (some ⟨w.heap.size, 0, none⟩) 4 4, .slice (some ⟨w.heap.size + 1, 0, none⟩) 1 1] 40)) (.cells #[.string ⟨#[102]⟩, .int .i64 (-1), .int .i64 0, .bool true] 36 (0, 0)) (w.heap.size + 1) (by simp <;> omega)).trans h
    have h := (Below.heap_alloc ((((w.alloc (.cells #[.int .u8 1, .int .u8 2, .int .u8 3, .int .u8 4] 5)).alloc (.cells #[.int .i64 0, .int .i64 283, .int .i64 0, .int .i64 0] 54)).alloc (.cells #[.string ⟨#[46, 116, 101, 120, 116]⟩, .int .i64 1, .int .i64 4, .int .i64 4, .slice (some ⟨w.heap.size, 0, none⟩) 4 4, .slice (some ⟨w.heap.size + 1, 0, none⟩) 1 1] 40)).alloc (.cells #[.string ⟨#[102]⟩, .int .i64 (-1), .int .i64 0, .bool true] 36)) (.cells #[.slice (some ⟨w.heap.size + 1 + 1, 0, none⟩) 1 1, .slice (some ⟨w.heap.size + 1 + 1 + 1, 0, none⟩) 1 1] 25 (0, 0)) (w.heap.size + 1) (by simp <;> omega)).trans h
    have h := (Below.heap_alloc (((((w.alloc (.cells #[.int .u8 1, .int .u8 2, .int .u8 3, .int .u8 4] 5)).alloc (.cells #[.int .i64 0, .int .i64 283, .int .i64 0, .int .i64 0] 54)).alloc (.cells #[.string ⟨#[46, 116, 101, 120, 116]⟩, .int .i64 1, .int .i64 4, .int .i64 4, .slice (some ⟨w.heap.size, 0, none⟩) 4 4, .slice (some ⟨w.heap.size + 1, 0, none⟩) 1 1] 40)).alloc (.cells #[.string ⟨#[102]⟩, .int .i64 (-1), .int .i64 0, .bool true] 36)).alloc (.cells #[.slice (some ⟨w.heap.size + 1 + 1, 0, none⟩) 1 1, .slice (some ⟨w.heap.size + 1 + 1 + 1, 0, none⟩) 1 1] 25)) (.cells #[.slice (some ⟨w.heap.size + 1 + 1, 0, none⟩) 1 1, .slice none 0 0] 25 (0, 0)) (w.heap.size + 1) (by simp <;> omega)).trans h
    exact h
  have e2 : wd.heap[w.heap.size + 1 + 1]? = some (.cells #[.string ⟨#[46, 116, 101, 120, 116]⟩, .int .i64 1, .int .i64 4, .int .i64 4, .slice (some ⟨w.heap.size, 0, none⟩) 4 4, .slice (some ⟨w.heap.size + 1, 0, none⟩) 1 1] 40 (0, 0)) := by
    rw [hwd]
    have h := heap_alloc_new ((w.alloc (.cells #[.int .u8 1, .int .u8 2, .int .u8 3, .int .u8 4] 5)).alloc (.cells #[.int .i64 0, .int .i64 283, .int .i64 0, .int .i64 0] 54)) (.cells #[.string ⟨#[46, 116, 101, 120, 116]⟩, .int .i64 1, .int .i64 4, .int .i64 4, .slice (some ⟨w.heap.size, 0, none⟩) 4 4, .slice (some ⟨w.heap.size + 1, 0, none⟩) 1 1] 40 (0, 0))
    try simp only [World.size_alloc] at h
    have h := (Below.heap_alloc (((w.alloc (.cells #[.int .u8 1, .int .u8 2, .int .u8 3, .int .u8 4] 5)).alloc (.cells #[.int .i64 0, .int .i64 283, .int .i64 0, .int .i64 0] 54)).alloc (.cells #[.string ⟨#[46, 116, 101, 120, 116]⟩, .int .i64 1, .int .i64 4, .int .i64 4, .slice (some ⟨w.heap.size, 0, none⟩) 4 4, .slice (some ⟨w.heap.size + 1, 0, none⟩) 1 1] 40)) (.cells #[.string ⟨#[102]⟩, .int .i64 (-1), .int .i64 0, .bool true] 36 (0, 0)) (w.heap.size + 1 + 1) (by simp <;> omega)).trans h
    have h := (Below.heap_alloc ((((w.alloc (.cells #[.int .u8 1, .int .u8 2, .int .u8 3, .int .u8 4] 5)).alloc (.cells #[.int .i64 0, .int .i64 283, .int .i64 0, .int .i64 0] 54)).alloc (.cells #[.string ⟨#[46, 116, 101, 120, 116]⟩, .int .i64 1, .int .i64 4, .int .i64 4, .slice (some ⟨w.heap.size, 0, none⟩) 4 4, .slice (some ⟨w.heap.size + 1, 0, none⟩) 1 1] 40)).alloc (.cells #[.string ⟨#[102]⟩, .int .i64 (-1), .int .i64 0, .bool true] 36)) (.cells #[.slice (some ⟨w.heap.size + 1 + 1, 0, none⟩) 1 1, .slice (some ⟨w.heap.size + 1 + 1 + 1, 0, none⟩) 1 1] 25 (0, 0)) (w.heap.size + 1 + 1) (by simp <;> omega)).trans h
    have h := (Below.heap_alloc (((((w.alloc (.cells #[.int .u8 1, .int .u8 2, .int .u8 3, .int .u8 4] 5)).alloc (.cells #[.int .i64 0, .int .i64 283, .int .i64 0, .int .i64 0] 54)).alloc (.cells #[.string ⟨#[46, 116, 101, 120, 116]⟩, .int .i64 1, .int .i64 4, .int .i64 4, .slice (some ⟨w.heap.size, 0, none⟩) 4 4, .slice (some ⟨w.heap.size + 1, 0, none⟩) 1 1] 40)).alloc (.cells #[.string ⟨#[102]⟩, .int .i64 (-1), .int .i64 0, .bool true] 36)).alloc (.cells #[.slice (some ⟨w.heap.size + 1 + 1, 0, none⟩) 1 1, .slice (some ⟨w.heap.size + 1 + 1 + 1, 0, none⟩) 1 1] 25)) (.cells #[.slice (some ⟨w.heap.size + 1 + 1, 0, none⟩) 1 1, .slice none 0 0] 25 (0, 0)) (w.heap.size + 1 + 1) (by simp <;> omega)).trans h
    exact h
  have e3 : wd.heap[w.heap.size + 1 + 1 + 1]? = some (.cells #[.string ⟨#[102]⟩, .int .i64 (-1), .int .i64 0, .bool true] 36 (0, 0)) := by
    rw [hwd]
    have h := heap_alloc_new (((w.alloc (.cells #[.int .u8 1, .int .u8 2, .int .u8 3, .int .u8 4] 5)).alloc (.cells #[.int .i64 0, .int .i64 283, .int .i64 0, .int .i64 0] 54)).alloc (.cells #[.string ⟨#[46, 116, 101, 120, 116]⟩, .int .i64 1, .int .i64 4, .int .i64 4, .slice (some ⟨w.heap.size, 0, none⟩) 4 4, .slice (some ⟨w.heap.size + 1, 0, none⟩) 1 1] 40)) (.cells #[.string ⟨#[102]⟩, .int .i64 (-1), .int .i64 0, .bool true] 36 (0, 0))
    try simp only [World.size_alloc] at h
    have h := (Below.heap_alloc ((((w.alloc (.cells #[.int .u8 1, .int .u8 2, .int .u8 3, .int .u8 4] 5)).alloc (.cells #[.int .i64 0, .int .i64 283, .int .i64 0, .int .i64 0] 54)).alloc (.cells #[.string ⟨#[46, 116, 101, 120, 116]⟩, .int .i64 1, .int .i64 4, .int .i64 4, .slice (some ⟨w.heap.size, 0, none⟩) 4 4, .slice (some ⟨w.heap.size + 1, 0, none⟩) 1 1] 40)).alloc (.cells #[.string ⟨#[102]⟩, .int .i64 (-1), .int .i64 0, .bool true] 36)) (.cells #[.slice (some ⟨w.heap.size + 1 + 1, 0, none⟩) 1 1, .slice (some ⟨w.heap.size + 1 + 1 + 1, 0, none⟩) 1 1] 25 (0, 0)) (w.heap.size + 1 + 1 + 1) (by simp <;> omega)).trans h
    have h := (Below.heap_alloc (((((w.alloc (.cells #[.int .u8 1, .int .u8 2, .int .u8 3, .int .u8 4] 5)).alloc (.cells #[.int .i64 0, .int .i64 283, .int .i64 0, .int .i64 0] 54)).alloc (.cells #[.string ⟨#[46, 116, 101, 120, 116]⟩, .int .i64 1, .int .i64 4, .int .i64 4, .slice (some ⟨w.heap.size, 0, none⟩) 4 4, .slice (some ⟨w.heap.size + 1, 0, none⟩) 1 1] 40)).alloc (.cells #[.string ⟨#[102]⟩, .int .i64 (-1), .int .i64 0, .bool true] 36)).alloc (.cells #[.slice (some ⟨w.heap.size + 1 + 1, 0, none⟩) 1 1, .slice (some ⟨w.heap.size + 1 + 1 + 1, 0, none⟩) 1 1] 25)) (.cells #[.slice (some ⟨w.heap.size + 1 + 1, 0, none⟩) 1 1, .slice none 0 0] 25 (0, 0)) (w.heap.size + 1 + 1 + 1) (by simp <;> omega)).trans h
    exact h
  have e4 : wd.heap[w.heap.size + 1 + 1 + 1 + 1]? = some (.cells #[.slice (some ⟨w.heap.size + 1 + 1, 0, none⟩) 1 1, .slice (some ⟨w.heap.size + 1 + 1 + 1, 0, none⟩) 1 1] 25 (0, 0)) := by
    rw [hwd]
    have h := heap_alloc_new ((((w.alloc (.cells #[.int .u8 1, .int .u8 2, .int .u8 3, .int .u8 4] 5)).alloc (.cells #[.int .i64 0, .int .i64 283, .int .i64 0, .int .i64 0] 54)).alloc (.cells #[.string ⟨#[46, 116, 101, 120, 116]⟩, .int .i64 1, .int .i64 4, .int .i64 4, .slice (some ⟨w.heap.size, 0, none⟩) 4 4, .slice (some ⟨w.heap.size + 1, 0, none⟩) 1 1] 40)).alloc (.cells #[.string ⟨#[102]⟩, .int .i64 (-1), .int .i64 0, .bool true] 36)) (.cells #[.slice (some ⟨w.heap.size + 1 + 1, 0, none⟩) 1 1, .slice (some ⟨w.heap.size + 1 + 1 + 1, 0, none⟩) 1 1] 25 (0, 0))
    try simp only [World.size_alloc] at h
    have h := (Below.heap_alloc (((((w.alloc (.cells #[.int .u8 1, .int .u8 2, .int .u8 3, .int .u8 4] 5)).alloc (.cells #[.int .i64 0, .int .i64 283, .int .i64 0, .int .i64 0] 54)).alloc (.cells #[.string ⟨#[46, 116, 101, 120, 116]⟩, .int .i64 1, .int .i64 4, .int .i64 4, .slice (some ⟨w.heap.size, 0, none⟩) 4 4, .slice (some ⟨w.heap.size + 1, 0, none⟩) 1 1] 40)).alloc (.cells #[.string ⟨#[102]⟩, .int .i64 (-1), .int .i64 0, .bool true] 36)).alloc (.cells #[.slice (some ⟨w.heap.size + 1 + 1, 0, none⟩) 1 1, .slice (some ⟨w.heap.size + 1 + 1 + 1, 0, none⟩) 1 1] 25)) (.cells #[.slice (some ⟨w.heap.size + 1 + 1, 0, none⟩) 1 1, .slice none 0 0] 25 (0, 0)) (w.heap.size + 1 + 1 + 1 + 1) (by simp <;> omega)).trans h
    exact h
  have e5 : wd.heap[w.heap.size + 1 + 1 + 1 + 1 + 1]? = some (.cells #[.slice (some ⟨w.heap.size + 1 + 1, 0, none⟩) 1 1, .slice none 0 0] 25 (0, 0)) := by
    rw [hwd]
    have h := heap_alloc_new (((((w.alloc (.cells #[.int .u8 1, .int .u8 2, .int .u8 3, .int .u8 4] 5)).alloc (.cells #[.int .i64 0, .int .i64 283, .int .i64 0, .int .i64 0] 54)).alloc (.cells #[.string ⟨#[46, 116, 101, 120, 116]⟩, .int .i64 1, .int .i64 4, .int .i64 4, .slice (some ⟨w.heap.size, 0, none⟩) 4 4, .slice (some ⟨w.heap.size + 1, 0, none⟩) 1 1] 40)).alloc (.cells #[.string ⟨#[102]⟩, .int .i64 (-1), .int .i64 0, .bool true] 36)).alloc (.cells #[.slice (some ⟨w.heap.size + 1 + 1, 0, none⟩) 1 1, .slice (some ⟨w.heap.size + 1 + 1 + 1, 0, none⟩) 1 1] 25)) (.cells #[.slice (some ⟨w.heap.size + 1 + 1, 0, none⟩) 1 1, .slice none 0 0] 25 (0, 0))
    try simp only [World.size_alloc] at h
    exact h
  obtain ⟨ho1, ho2⟩ := oOne_ok e0 e1 e2 e3
  have HC1 := hid (fun w1 (hb : Below wd.heap.size wd w1) => check_any (oOne w.heap.size) w1 (ho1.below hb))
  have HC2 := hid (fun w1 (hb : Below wd.heap.size wd w1) => check_any (oTwo w.heap.size) w1 (ho2.below hb))
  rw [ck1] at HC1
  rw [ck2] at HC2
  unfold oOne Ob.cells at HC1
  unfold oTwo Ob.cells at HC2
  dsimp only [List.length_cons, List.length_nil] at HC1 HC2
  have hall4 : ∀ w', Below wd.heap.size wd w' → w'.heap[w.heap.size + 1 + 1 + 1 + 1]? = _ := fun w' hw => (hw.block _ (Array.getElem?_eq_some_iff.1 e4).1).trans e4
  have hall5 : ∀ w', Below wd.heap.size wd w' → w'.heap[w.heap.size + 1 + 1 + 1 + 1 + 1]? = _ := fun w' hw => (hw.block _ (Array.getElem?_eq_some_iff.1 e5).1).trans e5
  have g0 : ∀ w', Below wd.heap.size wd w' → _ := fun w' hw => cell_of_row w' _ 0 _ _ _ (hall4 w' hw)
  have g1 : ∀ w', Below wd.heap.size wd w' → _ := fun w' hw => cell_of_row w' _ 1 _ _ _ (hall4 w' hw)
  have g2 : ∀ w', Below wd.heap.size wd w' → _ := fun w' hw => cell_of_row w' _ 0 _ _ _ (hall5 w' hw)
  have g3 : ∀ w', Below wd.heap.size wd w' → _ := fun w' hw => cell_of_row w' _ 1 _ _ _ (hall5 w' hw)
  simp only [List.getElem?_toArray, List.getElem?_cons_zero, List.getElem?_cons_succ] at g0 g1 g2 g3
  clear e0 e1 e2 e3 e4 e5 ho1 ho2 hall4 hall5
  have hq0 : Below wd.heap.size wd wd := Below.refl _ _
  go_enter Try.func8, Try.ntmps8
  go_upto_region 4 with (fail)
  rw [← hwd]
  clear hwd
  go_wp2_with (first
    | (go_at_call 9; with_reducible refine (HK1.out _).mono ?_; rintro e w' ⟨rfl, hbq⟩; have hq2 : Below wd.heap.size wd w' := below_more hbq (by assumption) (Nat.le_refl _); clear hbq)
    | (go_at_call 9; with_reducible refine (HK2.out _).mono ?_; rintro e w' ⟨rfl, hbq⟩; have hq2 : Below wd.heap.size wd w' := below_more hbq (by assumption) (Nat.le_refl _); clear hbq)
    | (go_at_call 11; with_reducible refine (HW.out _).mono ?_; rintro e w' ⟨rfl, rfl⟩)
    | (go_at_call 14; with_reducible refine (HC1.out _ (by assumption)).mono ?_; rintro e w' ⟨rfl, hbq⟩; have hq2 : Below wd.heap.size wd w' := below_more hbq (by assumption) (Nat.le_refl _); clear hbq)
    | (go_at_call 14; with_reducible refine (HC2.out _ (by assumption)).mono ?_; rintro e w' ⟨rfl, hbq⟩; have hq2 : Below wd.heap.size wd w' := below_more hbq (by assumption) (Nat.le_refl _); clear hbq))
  go_ret
  exact ⟨ret_bool rfl, below_more (by assumption) hbx (Nat.le_refl _)⟩
end Go.Proofs.Yteccpmmedpkddaa
