/-
  strtab.Check: it reckons 'chkC'.
-/
import Derived.Test.YtaophcndkhnbeaaNameI
import Derived.Test.YtaophcndkhnbeaaWBuild
namespace Go.Proofs.Ytaophcndkhnbeaa
open Go.RowKit
attribute [local go_sem] Oper.semAt_some
attribute [local go_sem] wide_fn wide_depth

theorem names_any (q : Option Addr) (m c : Nat) (w : World) :
    Calls Try.prog 30 #[.slice q m c] w fun e w' => e = .returned (.func (.func 35) #[] #[.pointer (some ⟨w.heap.size, 0, none⟩)]) ∧ w' = w.alloc (.cells #[.slice q m c] 25) := by
  go_enter Try.func30, Try.ntmps30
  go_wp2
  go_ret
  exact ⟨rfl, rfl⟩
theorem Names_any (q : Option Addr) (m c : Nat) (w : World) :
    Calls Try.prog 32 #[.slice q m c] w fun e w' => e = .returned (.func (.func 37) #[] #[.pointer (some ⟨w.heap.size, 0, none⟩)]) ∧ w' = w.alloc (.cells #[.slice q m c] 25) := by
  go_enter Try.func32, Try.ntmps32
  go_wp2
  go_ret
  exact ⟨rfl, rfl⟩

theorem heap_keptP {W W' : World} {row : Option Nat} {k : Nat} {o : Obj} (hg : W.grownBy W' row) (hr : some k ≠ row) (h : W.heap[k]? = some o) : W'.heap[k]? = some o :=
  (hg.block k (Array.getElem?_eq_some_iff.1 h).1 hr).trans h

/-- The words seen so far. -/
def SeenN (m : List (ByteArray × Bool)) (pre : List (Nat × ByteArray)) : Prop := ∀ x, ((x = ByteArray.empty ∨ x ∈ pre.map (fun r : Nat × ByteArray => r.2)) ∧ alook m x = some true) ∨ (¬ (x = ByteArray.empty ∨ x ∈ pre.map (fun r : Nat × ByteArray => r.2)) ∧ alook m x = none)

/-- What Check's loop keeps, with the result's cell at w's end, the map behind it, its box at g. -/
structure ChkI (w : World) (g : Nat) (v : Int) (pre : List (Nat × ByteArray)) (W : World) : Prop where
  res : W.heap[w.heap.size]? = some (.cells #[.int .i64 v] 27 (0, 0))
  box : W.heap[g]? = some (.cells #[.map (some (w.heap.size + 1))] 57 (0, 0))
  map : ∃ m, MapIs Value.string Value.bool W (w.heap.size + 1) m ∧ SeenN m pre
  below : Below w.heap.size w W
theorem ChkI.kept {w W W' : World} {g : Nat} {v : Int} {pre : List (Nat × ByteArray)} {B : Nat} (h : ChkI w g v pre W) (hB : w.heap.size + 1 < B) (hgB : g < B) {row : Option Nat} (hg : W.grownBy W' row) (hr : ∀ r, row = some r → B ≤ r) : ChkI w g v pre W' :=
  ⟨heap_keptP hg (fun e => by have := hr _ e.symm; omega) h.res, heap_keptP hg (fun e => by have := hr _ e.symm; omega) h.box,
    by obtain ⟨m, hm, hs⟩ := h.map; exact ⟨m, hm.kept hg (fun e => by have := hr _ e.symm; omega), hs⟩, h.below.grown hg h.below.size (fun k e => by have := hr k e; omega)⟩

theorem seen0 : SeenN (aset [] ByteArray.empty true) [] := by
  intro x
  by_cases h : x = ByteArray.empty
  · subst h; exact .inl ⟨.inl rfl, by simp [aset, alook]⟩
  · exact .inr ⟨by simp [h], by simp [aset, alook, h]⟩
theorem seen_snoc {m : List (ByteArray × Bool)} {pre : List (Nat × ByteArray)} (h : SeenN m pre) (x : Nat × ByteArray) : SeenN (aset m x.2 true) (pre ++ [x]) := by
  intro y
  rw [alook_aset]
  by_cases e : y = x.2
  · subst e; exact .inl ⟨.inr (by simp), by simp⟩
  · rw [if_neg e]
    rcases h y with ⟨h1, h2⟩ | ⟨h1, h2⟩
    · exact .inl ⟨h1.imp id (fun h => by rw [List.map_append]; exact List.mem_append_left _ h), h2⟩
    · refine .inr ⟨?_, h2⟩
      rintro (hy | hy)
      · exact h1 (.inl hy)
      · rw [List.map_append] at hy
        rcases List.mem_append.1 hy with hy | hy
        · exact h1 (.inr hy)
        · simp at hy; exact e hy

theorem zeroB (w : World) : (zeroValue 4).run Try.prog w = .ok (.bool false) w := by kernel_rfl

theorem nodup_snoc (l : List ByteArray) (x : ByteArray) : (l ++ [x]).Nodup ↔ l.Nodup ∧ x ∉ l := by
  rw [List.nodup_append]
  constructor
  · rintro ⟨h1, _, h2⟩; exact ⟨h1, fun hx => h2 x hx x (by simp) rfl⟩
  · rintro ⟨h1, h2⟩; exact ⟨h1, by simp, fun a ha b hb => by simp at hb; subst hb; rintro rfl; exact h2 ha⟩

theorem byte_ne {x : UInt8} (h : ¬ x = 0) : ((x.toNat : Int) != 0) = true := by
  rw [bne_iff_ne]
  intro e
  apply h
  apply UInt8.toNat_inj.1
  have : x.toNat = 0 := by omega
  simpa using this

set_option maxHeartbeats 1000000 in
theorem chk_any (p : Option Addr) (c : Nat) (tab : List UInt8) (w : World) (hc : tab.length ≤ c) (hm : tab.length ≤ 1048576) (hrow : Row w p (u8s tab)) :
    Calls Try.prog 20 #[.slice p tab.length c] w fun e w' => e = .returned (.int .i64 (chkC tab)) ∧ Below w.heap.size w w' := by
  by_cases h0 : tab = []
  · subst h0
    have HB : Hid (chkC [] = 190) := rfl
    go_enter Try.func20, Try.ntmps20
    go_wp2
    refine bodyPost_ret (v := .int .i64 190) (by simp [results, Try.results20, go_sem]) rfl ?_
    rw [HB.out]
    exact ⟨rfl, (Below.refl _ _).alloc (Nat.le_refl _) _⟩
  · have hl : 0 < tab.length := by cases tab with | nil => exact absurd rfl h0 | cons => simp
    obtain ⟨b, o, rfl, hbw, hcell⟩ := hrow.at (by simpa [u8s] using hl)
    have hc0 := hcell 0 (by simpa [u8s] using hl)
    have hc1 := hcell (tab.length - 1) (by simp [u8s]; omega)
    simp only [u8s, List.getElem_map, Nat.add_zero] at hc0 hc1
    have HF : Hid (tab.head? = some tab[0]) := by simp [Hid, List.head?_eq_getElem?, hl]
    have HG : Hid (tab.getLast? = some tab[tab.length - 1]) := by simp [Hid, List.getLast?_eq_getElem?, hl]
    generalize tab[0] = x at *
    generalize tab[tab.length - 1] = y at *
    have ho : tab.length - 1 < tab.length := by omega
    clear hcell
    have hA0 : (w.alloc (.cells #[.int .i64 0] 27)).cell? ⟨b, o, none⟩ = some (.int .u8 x.toNat) := (((Below.refl _ w).alloc (Nat.le_refl _) _).cell hbw).trans hc0
    have hA1 : (w.alloc (.cells #[.int .i64 0] 27)).cell? ⟨b, o + (tab.length - 1), none⟩ = some (.int .u8 y.toNat) := (((Below.refl _ w).alloc (Nat.le_refl _) _).cell hbw).trans hc1
    clear hc0 hc1
    by_cases hx : x = 0
    · by_cases hy : y = 0
      · subst hx hy
        have HE : Hid (ends0 tab = true) := by simp [Hid, ends0, HF.out, HG.out]
        clear HF HG
        refine callsIn_wide.1 (?_ : CallsIn Fence.wide 8 Try.prog 20 #[.slice (some ⟨b, o, none⟩) tab.length c] w _)
        refine callsIn_of_wp_marks Try.func20 rfl (show Fence.wide.fn 20 from trivial) ?_ rfl
        simp only [Try.ntmps20, List.size_toArray, List.length_cons, List.length_nil, Nat.reduceAdd, Nat.reduceSub, Array.replicate_succ, Array.replicate_zero, List.push_toArray, List.append_toArray, List.nil_append, List.cons_append]
        have hmm := @run_makeMap Try.prog
        have hmk := MapIs.made Value.string Value.bool (w.alloc (.cells #[.int .i64 0] 27))
        rw [World.size_alloc] at hmk
        gi_wp2_with (first | ((with_reducible show wpListIn _ _ _ _ _ (⟨none, .insert 57 _ _ _, _, _, _, _⟩ :: _) _ _); refine wpListIn_mapset K9 Try.underlying57 rfl _ _ _ (.inr rfl) _ [] rfl hmk ByteArray.empty rfl true rfl ?_; intro w1 hm1 hg1) | (gi_at_call 30; refine (callsIn_wide.2 (names_any _ _ _ _)).mono ?_; rintro e w2 ⟨rfl, rfl⟩))
        obtain ⟨W0, hW0⟩ : ∃ W0, (w1.alloc (.cells #[.map (some (w.heap.size + 1))] 57)).alloc (.cells #[.slice (some ⟨b, o, none⟩) tab.length c] 25) = W0 := ⟨_, rfl⟩
        rw [hW0]
        have hs1 : w.heap.size + 2 ≤ w1.heap.size := by have := hg1.size; simpa using this
        have hbw1 : Below w.heap.size w w1 := (((Below.refl _ _).alloc (Nat.le_refl _) _).alloc (by simp) _).grown hg1 (by simp; omega) (by simp)
        have hs0 : W0.heap.size = w1.heap.size + 2 := by rw [← hW0]; simp
        have hb1 : Below w1.heap.size w1 W0 := by rw [← hW0]; exact ((Below.refl _ _).alloc (Nat.le_refl _) _).alloc (by simp) _
        have hb0 : Below w.heap.size w W0 := hbw1.trans (hb1.mono (by omega))
        have hT0 : ChkI w w1.heap.size 0 [] W0 := by
          refine ⟨?_, ?_, ⟨_, hm1.below hb1 (by omega), seen0⟩, hb0⟩
          · refine (hb1.block _ (by omega)).trans (heap_keptP hg1 (by simp) ((Below.heap_alloc _ _ _ (by simp)).trans (heap_alloc_new w _)))
          · rw [← hW0]; exact (Below.heap_alloc _ _ _ (by simp)).trans (heap_alloc_new w1 _)
        have hbx0 : W0.heap[w1.heap.size + 1]? = some (.cells #[.slice (some ⟨b, o, none⟩) tab.length c] 25 (0, 0)) := by
          have hn := heap_alloc_new (w1.alloc (.cells #[.map (some (w.heap.size + 1))] 57)) (.cells #[.slice (some ⟨b, o, none⟩) tab.length c] 25)
          rw [hW0, World.size_alloc] at hn
          exact hn
        have hseq := names1_seq 7 (by omega) tab hm w.heap.size (fun T => T == 25) rfl (w1.heap.size + 1) (some ⟨b, o, none⟩) c hc W0 hbx0 (by omega) (hrow.below hb0) (by intro a ha; cases ha; exact hbw)
        clear hW0 hb0 hb1 hm1 hg1 hmk hmm hbx0 hA0 hA1
        refine wpIn_rangeFunc_O rfl (by omega) (gf := 35) (lb := #[.pointer (some ⟨w1.heap.size + 1, 0, none⟩)]) rfl trivial (enters_of Try.func35 (by kernel_rfl) rfl) hseq
          KpT.trans (fun W l o o' hl h1 h2 h3 => KpT.putObj (by omega) W l o o' hl h1 h2 h3) (Below.refl _ _) (fun _ => rfl)
          (fun pre W' => (ByteArray.empty :: pre.map (fun r : Nat × ByteArray => r.2)).Nodup ∧ ChkI w w1.heap.size 0 pre W') (fun c pre W' => c = .ret ∧ ¬ (ByteArray.empty :: pre.map (fun r : Nat × ByteArray => r.2)).Nodup ∧ W'.heap[w.heap.size]? = some (.cells #[.int .i64 190] 27 (0, 0)) ∧ Below w.heap.size w W')
          (fun s A B row hs hg hr => ⟨hs.1, hs.2.kept (by omega) (by omega) hg (fun r e => (hr r e).1)⟩)
          (fun c s A B row hs hg hr => ⟨hs.1, hs.2.1, heap_keptP hg (fun e => by have := (hr _ e.symm).1; omega) hs.2.2.1, hs.2.2.2.grown hg hs.2.2.2.size (fun k e => by have := (hr _ e).1; omega)⟩)
          ⟨by simp, hT0⟩
          ?act ?assign ?body ?done ?stop
        case assign =>
          intro l x W K hK
          simp only [encR]
          gi_wp2
          exact hK
        case body =>
          rintro l' pre x W1 ⟨hnd, hT⟩ hlen
          have d1 := cell_of_row W1 _ 0 _ _ _ hT.box
          have d0 := cell_of_row W1 _ 0 _ _ _ hT.res
          have f1 := frozen_of_row W1 _ 0 _ _ hT.res
          simp at d0 d1
          obtain ⟨m, hmi, hsn⟩ := hT.map
          obtain ⟨es, clock, hmb, _⟩ := id hmi
          have HT := hid hT
          have hWs := hT.below.size
          clear hT
          rcases hsn x.2 with ⟨h1, h2⟩ | ⟨h1, h2⟩
          · have HN : Hid (¬ (ByteArray.empty :: (pre ++ [x]).map (fun r : Nat × ByteArray => r.2)).Nodup) := by
              intro hN
              rw [List.map_append, ← List.cons_append, List.map_cons, List.map_nil, nodup_snoc] at hN
              exact hN.2 (List.mem_cons.2 h1)
            clear h1 hsn
            gi_wp2_with ((with_reducible show wpListIn _ _ _ _ _ (⟨some 37, _, _, _, _, _⟩ :: _) _ _); go_loud (refine wpListIn_maplook K9 Try.underlying57 rfl _ _ false rfl (.bool false) (zeroB _) _ m rfl hmi x.2 rfl ?_); simp only [h2, Option.map_some, Option.getD_some, Bool.false_eq_true, if_false])
            have hBx : Boxed W1 w.heap.size 27 (.int .i64 0) := HT.out.res
            exact ⟨(KeepsOthers.setCell W1 _ _).from _, rfl, HN.out, hBx.set _, HT.out.below.setCell (p := ⟨w.heap.size, 0, none⟩) (Nat.le_refl _) _⟩
          · have HN : Hid ((ByteArray.empty :: (pre ++ [x]).map (fun r : Nat × ByteArray => r.2)).Nodup) := by
              show List.Nodup _
              rw [List.map_append, ← List.cons_append, List.map_cons, List.map_nil, nodup_snoc]
              exact ⟨hnd, fun h => h1 (List.mem_cons.1 h)⟩
            have HSN := hid (seen_snoc hsn x)
            clear h1 hsn
            gi_wp2_with (first
              | ((with_reducible show wpListIn _ _ _ _ _ (⟨some 37, _, _, _, _, _⟩ :: _) _ _); go_loud (refine wpListIn_maplook K9 Try.underlying57 rfl _ _ false rfl (.bool false) (zeroB _) _ m rfl hmi x.2 rfl ?_); simp only [h2, Option.map_none, Option.getD_none, Bool.false_eq_true, if_false])
              | ((with_reducible show wpListIn _ _ _ _ _ (⟨none, .mapUpdate _ _ _ _, _, _, _, _⟩ :: _) _ _); go_loud (refine wpListIn_mapset K9 Try.underlying57 rfl _ _ _ (.inl rfl) _ m rfl hmi x.2 rfl true rfl ?_); intro w2 hm2 hg2))
            have hT2 := HT.out
            refine ⟨KeepsFrom.of_grownBy hg2 (fun j e => by cases e; omega), KpT.grown hg2 (by omega) (fun k e => ?_), HN.out, heap_keptP hg2 (by simp) hT2.res, heap_keptP hg2 (by simp; omega) hT2.box, ⟨_, hm2, HSN.out⟩, hT2.below.grown hg2 hWs (fun k e => by cases e; omega)⟩
            cases e
            exact ⟨by omega, fun cs T fz _ h => by rw [hmb] at h; cases h⟩
        case done =>
          rintro xs W1 rfl ⟨hnd, hT⟩ hD
          have d0 := cell_of_row W1 _ 0 _ _ _ hT.res
          simp at d0
          have f1 := frozen_of_row W1 _ 0 _ _ hT.res
          have HB : Hid (chkC tab = 0) := by
            show chkC tab = 0
            unfold chkC
            rw [if_neg (by omega), HE.out, if_neg (by simp), if_pos (show (ByteArray.empty :: namesP tab).Nodup from hnd)]
          have hBx : Boxed W1 w.heap.size 27 (.int .i64 0) := hT.res
          gi_wp2
          refine ⟨by simp, .inl ⟨_, _, rfl, run_takeDeferred ((Below.heap_setCell _ _ _ _ (by simp; omega)).trans hD), ?_⟩⟩
          have hset : Boxed (W1.setCell ⟨w.heap.size, 0, none⟩ (.int .i64 0)) w.heap.size 27 (.int .i64 0) := hBx.set _
          have hfin := (World.putObj_heap_other (o := .deferred none) (show w.heap.size ≠ W0.heap.size by omega)).trans hset
          have d9 := cell_of_row _ _ 0 _ _ _ hfin
          simp at d9
          refine ⟨.int .i64 0, by simp [results, Try.results20, go_sem, d9], by rw [HB.out], ?_⟩
          exact (hT.below.setCell (p := ⟨w.heap.size, 0, none⟩) (Nat.le_refl _) _).trans (belowK_b (w := W0) (by omega) _ _ _ _ (Nat.le_refl _) ((Below.heap_setCell _ _ _ _ (by simp; omega)).trans hD) rfl rfl)
        case stop =>
          rintro c pre W1 hpre ⟨rfl, hnn, hres, hbl⟩ hD
          have d1 := cell_of_row W1 _ 0 _ _ _ hres
          simp at d1
          have HB : Hid (chkC tab = 190) := by
            have hN : ¬ (ByteArray.empty :: namesP tab).Nodup := by
              obtain ⟨suf, hs⟩ := hpre
              intro h
              apply hnn
              unfold namesP at h
              rw [← hs, List.map_append, ← List.cons_append] at h
              exact (List.nodup_append.1 h).1
            show chkC tab = 190
            unfold chkC
            rw [if_neg (by omega), HE.out, if_neg (by simp), if_neg hN]
          gi_wp2
          refine ⟨by simp, .inl ⟨_, _, rfl, run_takeDeferred hD, ?_⟩⟩
          have hfin := (World.putObj_heap_other (o := .deferred none) (show w.heap.size ≠ W0.heap.size by omega)).trans hres
          have d9 := cell_of_row _ _ 0 _ _ _ hfin
          simp at d9
          refine ⟨.int .i64 190, by simp [results, Try.results20, go_sem, d9], by rw [HB.out], ?_⟩
          exact hbl.trans (belowK_b (w := W0) (by omega) _ _ _ _ (Nat.le_refl _) hD rfl rfl)
      · have HB : Hid (chkC tab = 190) := by
          have h2 : ends0 tab = false := by simp [ends0, HF.out, HG.out, hy]
          show chkC tab = 190
          unfold chkC
          rw [if_neg (by omega), if_pos h2]
        subst hx
        have hyn : ((y.toNat : Int) != 0) = true := byte_ne hy
        clear hy
        go_enter Try.func20, Try.ntmps20
        go_wp2
        refine bodyPost_ret (v := .int .i64 190) (by simp [results, Try.results20, go_sem]) rfl ?_
        rw [HB.out]
        exact ⟨rfl, (Below.refl _ _).alloc (Nat.le_refl _) _⟩
    · have HB : Hid (chkC tab = 190) := by
        have h2 : ends0 tab = false := by simp [ends0, HF.out, HG.out, hx]
        show chkC tab = 190
        unfold chkC
        rw [if_neg (by omega), if_pos h2]
      have hxn : ((x.toNat : Int) != 0) = true := byte_ne hx
      clear hx
      go_enter Try.func20, Try.ntmps20
      go_wp2
      refine bodyPost_ret (v := .int .i64 190) (by simp [results, Try.results20, go_sem]) rfl ?_
      rw [HB.out]
      exact ⟨rfl, (Below.refl _ _).alloc (Nat.le_refl _) _⟩
end Go.Proofs.Ytaophcndkhnbeaa
