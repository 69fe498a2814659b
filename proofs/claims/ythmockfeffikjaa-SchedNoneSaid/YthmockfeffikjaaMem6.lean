/-
  Do of the code's memory, without an error.
-/
import Derived.Test.YthmockfeffikjaaMem5
import Derived.StillTailTactics
namespace Go.Proofs.Ythmockfeffikjaa
open Go.RowKit
theorem put7_grown (w : World) (g o : Nat) (y : CeR) : w.grownBy (put7 w g o y) (some g) := by
  unfold put7
  iterate 7 refine gtr ?_ (grown_set _ _ _ _)
  exact World.grownBy.refl _ _
/-- What holds while the region of the store goes on: all but the row's block lies as it lay. -/
structure DS (W4 : World) (g : Nat) (w' : World) : Prop where
  s : w'.heap.size = W4.heap.size
  b : ∀ j, j ≠ g → w'.heap[j]? = W4.heap[j]?
theorem DS.cell {W4 w' : World} {g j o : Nat} (h : DS W4 g w') (hj : j ≠ g) : w'.cell? ⟨j, o, none⟩ = W4.cell? ⟨j, o, none⟩ := World.cell?_of_block (a := ⟨j, o, none⟩) (h.b j hj)
theorem DS.set {W4 w' : World} {g : Nat} (h : DS W4 g w') (o : Nat) (u : Value) : DS W4 g (w'.setCell ⟨g, o, none⟩ u) :=
  ⟨by simpa using h.s, fun j hj => (Below.heap_setCell w' ⟨g, o, none⟩ u j hj).trans (h.b j hj)⟩
theorem DS.refl (W4 : World) (g : Nat) : DS W4 g W4 := ⟨rfl, fun _ _ => rfl⟩
theorem DS.drew {W4 w' : World} {g : Nat} (h : DS W4 g w') : DS W4 g w'.drew := ⟨h.s, h.b⟩
variable {W : World} {base d : Nat} {v : Value} {ys : List CeR} {S : Mem} {fp : Nat → Prop}

set_option maxRecDepth 100000 in
set_option maxHeartbeats 1000000 in
theorem do_ok (H : MMach W base d hdM S fp) (wk : Int) (a : Ac) (he : (S.look wk a).2.2 = 0) :
    Calls Try.prog 43 #[.pointer (some ⟨d, 0, none⟩), i64 wk, a.val] W (DoTell W base d hdM S fp wk a) := by
  have e1 : S.step wk a = ⟨S.cs.set a.cell.toNat (S.look wk a).1, IntKind.i64.wrap (S.steps + 1)⟩ := by unfold Mem.step; rw [if_pos he]
  have e2 : S.tell wk a = ((S.look wk a).2.1, 0) := by unfold Mem.tell; rw [if_pos he]
  unfold DoTell
  rw [e1, e2, IntWalk.i64_left]
  clear e1 e2
  obtain ⟨v, ys, h⟩ := H
  have HM := hid h
  have hr : 0 ≤ a.cell ∧ a.cell < ys.length := by
    by_cases hno : a.cell < 0 ∨ (ys.length : Int) ≤ a.cell
    · rw [h.look_no hno] at he; cases he
    · omega
  obtain ⟨k, hk⟩ : ∃ k : Nat, a.cell = k := ⟨a.cell.toNat, by omega⟩
  have hkl : k < ys.length := by omega
  have hokk : okP (S.look wk a).1 = true := by
    rw [h.look hkl hk] at he ⊢
    exact oneP_ok _ _ _ he
  have HOK := hid hokk
  have hbs : Hid (base ≤ W.heap.size) := Nat.le_trans h.bd (Nat.le_of_lt (h.lt _ h.fd))
  have HL := hid (fun w' (hb : Below W.heap.size W w') => look_any (h.below hb) wk a)
  obtain ⟨g, c, rfl, hlg⟩ := own_block h.own (by omega)
  obtain ⟨_, c1, c2⟩ := hdM_cells h.head
  have hld := (Array.getElem?_eq_some_iff.1 h.head).1
  clear h hr hokk
  obtain ⟨ak, ac, ao, an⟩ := a
  dsimp only at hk
  subst hk
  rw [Int.toNat_natCast]
  generalize S.look wk ⟨ak, k, ao, an⟩ = r at HL he HOK ⊢
  obtain ⟨⟨kind', n', owner', need', came', turns', there'⟩, V, E⟩ := r
  unfold CeTellL Ce.val Ac.val at HL
  unfold Ac.val
  dsimp only [List.cons_append, List.nil_append] at *
  subst he
  have hb0 : Hid (Below W.heap.size W (W.alloc (.cells #[i64 ak, i64 k, i64 ao, i64 an] 34))) := (Below.refl _ _).alloc (Nat.le_refl _) _
  go_enter Try.func43, Try.ntmps43
  go_upto_region 4 with (go_at_call 52; (with_reducible refine (HL.out _ hb0.out).mono ?_); rintro e w3 ⟨p3, c3, rfl, hs3, hl3, hb3⟩; have HB3 := hid (below_more hb3 hb0.out (Nat.le_refl _)); have HBA := hid hb3; have HS3 := hid hs3; have HL3 := hid hl3; clear hs3 hl3 hb3)
  have hz3 := HB3.out.size
  have hgd : g ≠ d := fun e => HM.out.nd (by rw [← e]; rfl)
  have hd3 : d < w3.heap.size := by omega
  have hg3 : g < w3.heap.size := by have := hlg.2.1; omega
  obtain ⟨W4, hW4⟩ : ∃ W4, W4 = w3.alloc (.cells #[i64 kind', i64 n', i64 owner', i64 need', .slice p3 came'.length c3, i64 turns', .bool there'] 30) := ⟨_, rfl⟩
  rw [← hW4]
  have hb34 : Below w3.heap.size w3 W4 := by rw [hW4]; exact (Below.refl _ _).alloc (Nat.le_refl _) _
  have hz4 : W4.heap.size = w3.heap.size + 1 := by rw [hW4]; simp
  have hA : AcBlk W4 W.heap.size ⟨ak, k, ao, an⟩ := ((acblk_new W ⟨ak, k, ao, an⟩).below HBA.out).below hb34
  have hC : CeBlk W4 w3.heap.size ⟨kind', n', owner', need', came', turns', there'⟩ p3 c3 := by rw [hW4]; exact ceblk_new w3 ⟨kind', n', owner', need', came', turns', there'⟩ p3 c3
  have hb4 : Below W.heap.size W W4 := HB3.out.trans (hb34.mono HB3.out.size)
  have HM4 := hid (HM.out.below hb4)
  have q0 : ∀ w', DS W4 g w' → w'.cell? ⟨d, 1, none⟩ = some (.slice (some ⟨g, 0, none⟩) ys.length c) := fun w' h => (h.cell (Ne.symm hgd)).trans ((hb4.cell (p := ⟨d, 1, none⟩) hld).trans c1)
  have hgW : g < W.heap.size := hlg.2.1
  have hd2 : W4.cell? ⟨d, 2, none⟩ = some (i64 S.steps) := (hb4.cell (p := ⟨d, 2, none⟩) hld).trans c2
  have hfd : W4.frozen? ⟨d, 2, none⟩ = false := frozen_of_row _ _ _ _ _ HM4.out.head
  have hne0 : d ≠ g := Ne.symm hgd
  have a1 : ∀ w', DS W4 g w' → w'.cell? ⟨W.heap.size, 1, none⟩ = some (i64 k) := fun w' h => (h.cell (by omega)).trans hA.facts.1.2.1
  have cc : ∀ w' (o : Nat), DS W4 g w' → w'.cell? ⟨w3.heap.size, o, none⟩ = W4.cell? ⟨w3.heap.size, o, none⟩ := fun w' o h => h.cell (by omega)
  obtain ⟨⟨y0, y1, y2, y3, y4, y5, y6⟩, yf, yl⟩ := hC.facts
  dsimp only at y0 y1 y2 y3 y4 y5 y6
  have b0 := fun w' (h : DS W4 g w') => (cc w' 0 h).trans y0
  have b1 := fun w' (h : DS W4 g w') => (cc w' 1 h).trans y1
  have b2 := fun w' (h : DS W4 g w') => (cc w' 2 h).trans y2
  have b3 := fun w' (h : DS W4 g w') => (cc w' 3 h).trans y3
  have b4 := fun w' (h : DS W4 g w') => (cc w' 4 h).trans y4
  have b5 := fun w' (h : DS W4 g w') => (cc w' 5 h).trans y5
  have b6 := fun w' (h : DS W4 g w') => (cc w' 6 h).trans y6
  clear cc y0 y1 y2 y3 y4 y5 y6 yf
  have hr4 : Row W4 (some ⟨g, 0, none⟩) (ceRow ys) := by
    obtain ⟨p, c', e, hr⟩ := own_shape HM4.out.own
    injection e with e1; rw [e1]; exact hr
  obtain ⟨r0, r1, r2, r3, r4, r5, r6⟩ := ce_cells hr4 k hkl
  simp only [Nat.zero_add] at r0 r1 r2 r3 r4 r5 r6
  have gf : ∀ o, W4.frozen? ⟨g, o, none⟩ = false := fun o => by
    rcases HM4.out.own.2 with ⟨h0, _⟩ | ⟨g', cap, cur, hv, _, hh, _⟩
    · cases h0
    · cases hv; exact frozen_of_row _ _ _ _ _ hh
  have hlen : ys.length ≤ maxLen := Nat.le_trans hlg.2.2.1 hlg.2.2.2
  unfold maxLen at hlen
  have hkI : (k : Int) < ys.length := by omega
  have hk0 : (0 : Int) ≤ (k : Int) := by omega
  have HZ := hid (And.intro hz4 (And.intro hd3 hg3))
  have HQ : Hid (∀ q, p3 = some q → W.heap.size ≤ q.block ∧ q.block < W4.heap.size ∧ q.block ≠ d ∧ q.block ≠ g) := fun q hq => by
    have h1 := HL3.out q hq
    simp only [World.size_alloc] at h1
    omega
  have HGD := hid hgd
  have HB34 := hid hb34
  have HB4 := hid hb4
  have HKL := hid hkl
  have HLD := hid hld
  have HYL := hid yl
  clear hC hA hr4 hW4 c1 c2 hz3 hlg hbs hb34 hd3 hz4 yl
  have hDS : DS W4 g W4.drew := ⟨rfl, fun _ _ => rfl⟩
  go_region_held3 (fun w' => DS W4 g w') (first | (with_reducible assumption) | (with_reducible ((repeat (first | refine DS.drew ?_ | refine DS.set ?_ _ _)); exact DS.refl _ _))) (first | fail)
  go_wp2_with fail
  have hfpg : fp g := HM.out.fv g rfl
  have hbg : base ≤ g := own_ge HM.out.own g rfl
  have hbdl := HM.out.lt _ HM.out.fd
  obtain ⟨w5, hw5⟩ : ∃ w5, w5 = put7 W4 g (k * 7) ⟨⟨kind', n', owner', need', came', turns', there'⟩, p3, c3⟩ := ⟨_, rfl⟩
  have ho5 : ∀ j, j ≠ g → w5.heap[j]? = W4.heap[j]? := fun j hj => by rw [hw5]; exact put7_other _ _ _ _ _ hj
  have hz5 : w5.heap.size = W4.heap.size := by rw [hw5]; exact put7_size _ _ _ _
  have hq5 : w5.os = W4.os ∧ w5.tape = W4.tape ∧ w5.output = W4.output := by rw [hw5]; exact ⟨(put7_grown _ _ _ _).os, (put7_grown _ _ _ _).tape, (put7_grown _ _ _ _).output⟩
  have HP := HM4.out.put k HKL.out ⟨⟨kind', n', owner', need', came', turns', there'⟩, p3, c3⟩ HOK.out ((HS3.out).below HB34.out) (fun q hq => ⟨(HQ.out q hq).2.1, (HQ.out q hq).2.2.1, (HQ.out q hq).2.2.2⟩) (wrap64 (S.steps + 1)) (w2 := (w5.setCell ⟨d, 2, none⟩ (i64 (wrap64 (S.steps + 1)))).drew)
    (heap_setCell_same w5 d 2 _ _ _ ((ho5 _ hne0).trans HM4.out.head)) (fun j hj => by rw [← hw5]; exact Below.heap_setCell _ _ _ _ hj) (by simp [hz5])
  have hother : ∀ j, j < W.heap.size → j ≠ d → j ≠ g → ((w5.setCell ⟨d, 2, none⟩ (i64 (wrap64 (S.steps + 1)))).drew).heap[j]? = W.heap[j]? := fun j hj h1 h2 =>
    (Below.heap_setCell _ _ _ _ h1).trans ((ho5 _ h2).trans (HB4.out.block j hj))
  have hsz : W.heap.size ≤ ((w5.setCell ⟨d, 2, none⟩ (i64 (wrap64 (S.steps + 1)))).drew).heap.size := by
    have := HB4.out.size
    simp [hz5]; omega
  have hq6 : ((w5.setCell ⟨d, 2, none⟩ (i64 (wrap64 (S.steps + 1)))).drew).os = W4.os ∧ ((w5.setCell ⟨d, 2, none⟩ (i64 (wrap64 (S.steps + 1)))).drew).tape = W4.tape ∧ ((w5.setCell ⟨d, 2, none⟩ (i64 (wrap64 (S.steps + 1)))).drew).output = W4.output :=
    ⟨(grown_set w5 d 2 (i64 (wrap64 (S.steps + 1)))).os.trans hq5.1, (grown_set w5 d 2 (i64 (wrap64 (S.steps + 1)))).tape.trans hq5.2.1, (grown_set w5 d 2 (i64 (wrap64 (S.steps + 1)))).output.trans hq5.2.2⟩
  unfold put7 at hw5
  dsimp only at hw5
  rw [← hw5]
  exact bodyPost_ret (v := .tuple #[i64 V, i64 0]) (by simp [results, Try.results43, go_sem]) rfl ⟨rfl, _, ⟨_, _, HP⟩, fun j hj => by
      rcases hj with h | ⟨q, hq, rfl⟩
      · exact .inl h
      · exact .inr (HQ.out q hq).1,
    ⟨hq6.1.trans HB4.out.os, hq6.2.1.trans HB4.out.tape, hq6.2.2.trans HB4.out.output, hsz, fun j hj hn => hother j hj (fun e => hn (e ▸ HM.out.fd)) (fun e => hn (e ▸ hfpg))⟩,
    ⟨hq6.1.trans HB4.out.os, hq6.2.1.trans HB4.out.tape, hq6.2.2.trans HB4.out.output, hsz, fun j hj => hother j (by have := HM.out.bd; omega) (by have := HM.out.bd; omega) (by omega)⟩⟩
theorem do_any (H : MMach W base d hdM S fp) (wk : Int) (a : Ac) :
    Calls Try.prog 43 #[.pointer (some ⟨d, 0, none⟩), i64 wk, a.val] W (DoTell W base d hdM S fp wk a) := by
  by_cases he : (S.look wk a).2.2 = 0
  · exact do_ok H wk a he
  · exact do_err H wk a he
end Go.Proofs.Ythmockfeffikjaa
