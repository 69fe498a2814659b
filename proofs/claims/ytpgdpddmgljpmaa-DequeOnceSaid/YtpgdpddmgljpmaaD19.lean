/-
  counts, slices.Grow at nil, slices.Concat of two.
-/
import Derived.Test.YtpgdpddmgljpmaaD16
import Derived.Test.YtpgdpddmgljpmaaMapIn
import Derived.Lib.AppendZerosOnto
import Derived.Lib.Walk
import Derived.Lib.SliceRun
namespace Go.Proofs.Ytpgdpddmgljpmaa
open Go.RowKit
variable {w w' : World}

theorem alook_aset {κ β : Type} [DecidableEq κ] : ∀ (m : List (κ × β)) (x y : κ) (u : β), alook (aset m x u) y = if y = x then some u else alook m y
  | [], x, y, u => by simp [aset, alook]
  | (a, v) :: r, x, y, u => by
    unfold aset
    by_cases h : x = a
    · subst h
      rw [if_pos rfl]
      by_cases h2 : y = x
      · subst h2; simp [alook]
      · simp [alook, h2]
    · rw [if_neg h]
      by_cases h2 : y = a
      · subst h2
        simp [alook, Ne.symm h]
      · simp only [alook, if_neg h2]
        exact alook_aset r x y u
theorem K2 : KeyOk Try.prog 2 (Value.int .i64) := keyOk_int Try.underlying2
theorem zero3 (w : World) : (zeroValue 3).run Try.prog w = .ok (.int .i64 0) w := by kernel_rfl
def CntIs (w : World) (b : Nat) (l : List Int) : Prop := ∃ m : List (Int × Int), MapIs (Value.int .i64) (Value.int .i64) w b m ∧ ∀ v, (alook m v).getD 0 = l.count v
theorem CntIs.below {b : Nat} {l : List Int} {B : Nat} (h : CntIs w b l) (hb : Below B w w') (hlt : b < B) : CntIs w' b l := by
  obtain ⟨m, h1, h2⟩ := h
  exact ⟨m, h1.below hb hlt, h2⟩

set_option maxHeartbeats 1000000 in
theorem counts_any (p : Option Addr) (c : Nat) (l : List Int) (hl : l.length ≤ 1000000) (hr : Row w p (l.map i64)) :
    Calls Try.prog 31 #[.slice p l.length c] w fun e w' => ∃ b, e = .returned (.map (some b)) ∧ w.heap.size ≤ b ∧ b < w'.heap.size ∧ CntIs w' b l ∧ Below w.heap.size w w' := by
  have hmm := @run_makeMap Try.prog
  have HM0 := hid (MapIs.made (Value.int .i64) (Value.int .i64 : Int → Value) w)
  go_enter Try.func31, Try.ntmps31
  go_wp2
  go_loopw [9] (fun i W => ∃ (k : Nat) (m : List (Int × Int)), k ≤ l.length ∧ i = .int .i64 k ∧ MapIs (Value.int .i64) (Value.int .i64) W w.heap.size m ∧ (∀ v, (alook m v).getD 0 = (l.take k).count v) ∧ Below w.heap.size w W) (fun i _ => l.length - (intOf i).toNat)
  case atStart => exact ⟨0, [], Nat.zero_le _, rfl, HM0.out, fun v => by simp [alook], Below.allocS (Below.refl _ w) _⟩
  case round =>
    obtain ⟨k, m, hk, rfl, hm, hcnt, hb⟩ := hrel
    have HMM := hid hm
    have HC := hid hcnt
    have HB := hid hb
    have hsz := hb.size
    clear hm hcnt
    by_cases hlt : k < l.length
    · obtain ⟨b, o, rfl, hbw, hz⟩ := hr.at (by simp; omega)
      have hck := hz k (by simpa using hlt)
      simp only [List.getElem_map] at hck
      have g1 := (hb.cell (p := ⟨b, o + k, none⟩) hbw).trans hck
      have hkI : (k : Int) < l.length := by omega
      have HT := hid (take_succ l k hlt)
      clear hz hck hb
      have hcb := HC.out l[k]
      have hcl : (l.take k).count l[k] ≤ 1000000 := by
        have := List.count_le_length (a := l[k]) (l := l.take k)
        rw [List.length_take] at this; omega
      generalize l[k] = x at *
      obtain ⟨u, hu⟩ : ∃ u : Int, u = (alook m x).getD 0 := ⟨_, rfl⟩
      have hu0 : 0 ≤ u := by rw [hu, hcb]; omega
      have hu1 : u ≤ 1000000 := by rw [hu, hcb]; omega
      have hmap : ((alook m x).map (Value.int .i64)).getD (.int .i64 0) = .int .i64 u := by rw [hu]; cases alook m x <;> rfl
      have HU := hid hu
      clear hu hcb hcl
      have HMP := hid hmap
      clear hmap
      go_wp2_with (first
        | ((with_reducible show wpList _ _ _ (⟨some 15, _, _, _, _, _⟩ :: _) _ _); go_loud (refine wpList_maplook K2 Try.underlying59 rfl _ _ false rfl (.int .i64 0) (zero3 _) _ _ rfl HMM.out x rfl ?_); simp only [Bool.false_eq_true, if_false]; rw [HMP.out])
        | ((with_reducible show wpList _ _ _ (⟨none, .mapUpdate _ _ _ _, _, _, _, _⟩ :: _) _ _); go_loud (refine wpList_mapset K2 Try.underlying59 rfl _ _ _ (.inl rfl) _ _ rfl HMM.out x rfl (u + 1) rfl ?_); intro w1 hm1 hg1; have HM1 := hid hm1; have HB1 := hid (HB.out.grown hg1 hsz (by simp)); clear hm1 hg1))
      go_roundw
      case rel =>
        refine ⟨k + 1, _, by omega, by go_num, HM1.out, fun v => ?_, HB1.out⟩
        rw [alook_aset, HT.out, List.count_append]
        by_cases hv : v = x
        · subst hv
          rw [if_pos rfl]
          have h1 := HC.out v
          have h2 := HU.out
          simp; omega
        · rw [if_neg hv, HC.out v]
          have : [x].count v = 0 := by simp [Ne.symm hv]
          omega
      case measure => simp [intOf]; omega
    · obtain rfl : k = l.length := by omega
      go_wp2
      go_ret
      refine ⟨w.heap.size, rfl, Nat.le_refl _, HMM.out.lt, ⟨m, HMM.out, fun v => ?_⟩, HB.out⟩
      rw [HC.out v, List.take_length]

theorem zeros_size (n : Nat) : (Builtin.zeroCells (Value.int .i64 0).cells n).size = n := by
  simp [Builtin.zeroCells, Value.cells]
set_option maxRecDepth 100000 in
set_option maxHeartbeats 2000000 in
theorem grow_nil (n : Nat) (hn : n ≤ 1000000) :
    Calls Try.prog 47 #[.slice none 0 0, .int .i64 n] w fun e w' => ∃ v, e = .returned v ∧ w'.ownsRow w.heap.size 2 1 v 0 [] ∧ Below w.heap.size w w' := by
  by_cases h0 : n = 0
  · subst h0
    go_enter Try.func47, Try.ntmps47
    go_wp2
    go_ret
    exact ⟨_, rfl, World.ownsRow_nil _ _ _ _, Below.refl _ _⟩
  · obtain ⟨i, hi, hz, hsz, hby⟩ := E43.info
    have hrz : ∀ ty, (Builtin.append_ #[43, 3] ty #[.slice none 0 0, .int .i64 n]).run Try.prog w =
        .ok (.slice (some ⟨w.heap.size, 0, none⟩) n (grownCap w n 0 2)) (w.drew.alloc (.cells (#[] ++ Builtin.zeroCells (Value.int .i64 0).cells n ++ Builtin.zeroCells (Value.int .i64 0).cells (grownCap w n 0 2 - n)) 2)) := fun ty => by
      have h := Lib.run_append_grow_zeros (P := Try.prog) w 43 3 ty 2 i _ .i64 .i64 E43.desc Try.underlying3 hi hz none 0 0 [] (run_firstCells_none w.drew i.size 0 0 0) n (by omega) (by omega) (by omega) (by omega)
        (by rw [hby]; omega) (by rw [Nat.zero_add]; exact growslice_fits (by omega) (by rw [hby]; omega))
      rw [Nat.zero_add] at h
      exact h
    have hG1 : n ≤ grownCap w n 0 2 := grownCap_ge w _ _ _
    have hG2 : grownCap w n 0 2 ≤ maxLen := grownCap_le_maxLen w n 0 2 (by unfold maxLen; omega)
    generalize grownCap w n 0 2 = G at *
    have hG3 : G ≤ 9223372036854775807 := by unfold maxLen at hG2; omega
    have HG := hid hG2
    clear hG2 hi hz hsz hby
    have hpos : (0 : Int) < n := by omega
    have HRZ := hid hrz
    clear hrz
    obtain ⟨cs, hcs, hcsz⟩ : ∃ cs : Array Value, (#[] ++ Builtin.zeroCells (Value.int .i64 0).cells n ++ Builtin.zeroCells (Value.int .i64 0).cells (G - n)) = cs ∧ cs.size = G := ⟨_, rfl, by
      rw [Array.size_append, Array.size_append, zeros_size, zeros_size]; simp; omega⟩
    rw [hcs] at HRZ
    have HCS := hid hcsz
    clear hcs hcsz
    go_enter Try.func47, Try.ntmps47
    go_wp2_with (at_builtin; refine Lib.wpList_append_run _ rfl _ _ _ _ rfl _ _ rfl rfl _ _ (HRZ.out _) ?_)
    go_ret
    refine ⟨_, rfl, ?_, (Below.refl _ w).drew.alloc (Nat.le_refl _) _⟩
    exact ⟨rfl, .inr ⟨w.heap.size, G, cs, rfl, Nat.le_refl _, heap_alloc_new w.drew _, Nat.zero_le _, HG.out, by rw [HCS.out, Nat.mul_one], by simp⟩⟩

theorem ints_oneC (l : List Int) : ∀ u ∈ l.map i64, u.oneCell' = true := by
  intro u hu
  obtain ⟨_, _, rfl⟩ := List.mem_map.1 hu
  rfl
set_option maxRecDepth 100000 in
set_option maxHeartbeats 2000000 in
theorem concat_two (q : Nat) (pa pb : Option Addr) (ca cb : Nat) (a b : List Int) (ha : a.length ≤ 100000) (hb' : b.length ≤ 100000) (hra : Row w pa (a.map i64)) (hrb : Row w pb (b.map i64)) (hna : pa = none → ca = 0) (hnb : pb = none → cb = 0)
    (hq : w.heap[q]? = some (.cells #[.slice pa a.length ca, .slice pb b.length cb] 43 (0, 0))) :
    Calls Try.prog 32 #[.slice (some ⟨q, 0, none⟩) 2 2] w fun e w' => ∃ v, e = .returned v ∧ w'.ownsRow w.heap.size 2 1 v (a.length + b.length) ((a ++ b).map i64) ∧ Below w.heap.size w w' := by
  have hql := (Array.getElem?_eq_some_iff.1 hq).1
  have HC0 : Hid (∀ W, Below w.heap.size w W → W.cell? ⟨q, 0, none⟩ = some (.slice pa a.length ca) ∧ W.cell? ⟨q, 1, none⟩ = some (.slice pb b.length cb)) := fun W hW => ⟨(hW.cell (p := ⟨q, 0, none⟩) hql).trans (cell_of_row w q 0 _ _ _ hq), (hW.cell (p := ⟨q, 1, none⟩) hql).trans (cell_of_row w q 1 _ _ _ hq)⟩
  obtain ⟨c0, c1⟩ := HC0.out w (Below.refl _ _)
  have HGR := hid (grow_nil (w := w) (a.length + b.length) (by omega))
  rw [Int.natCast_add] at HGR
  have haI : (a.length : Int) ≤ 100000 := by omega
  have hbI : (b.length : Int) ≤ 100000 := by omega
  have hsI : ¬ ((a.length : Int) + (b.length : Int) < 0) := by omega
  have hsJ : ¬ ((a.length : Int) < 0) := by omega
  clear hq
  go_enter Try.func32, Try.ntmps32
  go_wp2
  go_loopw [3, 11] (fun v i W => W = w ∧ ((i = .int .i64 0 ∧ v = .int .i64 0) ∨ (i = .int .i64 1 ∧ v = .int .i64 a.length) ∨ (i = .int .i64 2 ∧ v = .int .i64 (a.length + b.length)))) (fun _ i _ => 2 - (intOf i).toNat)
  case atStart => exact ⟨rfl, .inl ⟨rfl, rfl⟩⟩
  case round =>
    obtain ⟨rfl, ⟨rfl, rfl⟩ | ⟨rfl, rfl⟩ | ⟨rfl, rfl⟩⟩ := hrel
    · go_wp2
      go_roundw
      case rel => exact ⟨trivial, .inr (.inl ⟨rfl, rfl⟩)⟩
      case measure => simp [intOf]
    · go_wp2
      go_roundw
      case rel => exact ⟨trivial, .inr (.inr ⟨rfl, rfl⟩)⟩
      case measure => simp [intOf]
    · go_wp2_with (go_at_call 47; refine HGR.out.mono ?_; rintro e w1 ⟨v1, rfl, ho1, hb1⟩; have HO1 := hid ho1; have HB1 := hid hb1; clear ho1 hb1)
      obtain ⟨wo, rfl⟩ : ∃ wo : World, wo = wr := ⟨_, rfl⟩
      go_loopw [6, 27] (fun v i W => Below wo.heap.size wo W ∧ ∃ (k : Nat) (l : List Int), i = .int .i64 k ∧ W.ownsRow wo.heap.size 2 1 v l.length (l.map i64) ∧ ((k = 0 ∧ l = []) ∨ (k = 1 ∧ l = a) ∨ (k = 2 ∧ l = a ++ b))) (fun _ i _ => 2 - (intOf i).toNat)
      case atStart => exact ⟨HB1.out, 0, [], rfl, HO1.out, .inl ⟨rfl, rfl⟩⟩
      case round =>
        obtain ⟨hb2, k, l, rfl, ho2, hk⟩ := hrel
        obtain ⟨g0, g1⟩ := HC0.out _ hb2
        have HO2 := hid ho2
        have HB2 := hid hb2
        have hsz := hb2.size
        clear ho2 hb2 c0 c1
        rcases hk with ⟨rfl, rfl⟩ | ⟨rfl, rfl⟩ | ⟨rfl, rfl⟩
        · rw [show ((0 : Nat) : Int) = 0 from rfl]
          go_wp2_with ((with_reducible show wpList _ _ _ (⟨some 33, _, _, _, _, _⟩ :: _) _ _); go_loud (refine wpList_app E43 rfl _ _ rfl wo.heap.size _ _ _ rfl HO2.out _ a.length ca (a.map i64) rfl (by simp) hna (hra.below HB2.out) (ints_oneC a) (by unfold maxLen; simp; omega) (by simp; omega) hsz ?_); intro v3 w3 ho3 hg3 hs3; have HO3 := hid ho3; have HB3 := hid (HB2.out.grown hg3 hsz (own_ge HO2.out)); clear ho3 hg3 hs3)
          go_roundw
          case rel => exact ⟨HB3.out, 1, a, rfl, by simpa using HO3.out, .inr (.inl ⟨rfl, rfl⟩)⟩
          case measure => simp [intOf]
        · rw [show ((1 : Nat) : Int) = 1 from rfl]
          go_wp2_with ((with_reducible show wpList _ _ _ (⟨some 33, _, _, _, _, _⟩ :: _) _ _); go_loud (refine wpList_app E43 rfl _ _ rfl wo.heap.size _ _ _ rfl HO2.out _ b.length cb (b.map i64) rfl (by simp) hnb (hrb.below HB2.out) (ints_oneC b) (by unfold maxLen; omega) (by omega) hsz ?_); intro v3 w3 ho3 hg3 hs3; have HO3 := hid ho3; have HB3 := hid (HB2.out.grown hg3 hsz (own_ge HO2.out)); clear ho3 hg3 hs3)
          go_roundw
          case rel => exact ⟨HB3.out, 2, l ++ b, rfl, by simpa using HO3.out, .inr (.inr ⟨rfl, rfl⟩)⟩
          case measure => simp [intOf]
        · rw [show ((2 : Nat) : Int) = 2 from rfl]
          go_wp2
          go_ret
          exact ⟨_, rfl, by simpa using HO2.out, HB2.out⟩
end Go.Proofs.Ytpgdpddmgljpmaa
