/-
 The two sorts' contracts.
 Which calls may be: the code's.
 What split's loop keeps: the struct's block, the three rows.
 split: the calls of a name, parted.
 row: the calls of a name in an order.
 Check's parts in plain words; the map's update as a step of a region.
 merge's closure, and the search for the row whose head may come next.
 What merge's loops keep.
 merge: all rows in one order.
-/
import Derived.Test.YtabkmdhkfbcldaaGreatJL12
import Derived.Test.YtabkmdhkfbcldaaGreatJL13
import Derived.Test.YtabkmdhkfbcldaaGreatJL1
import Derived.Test.YtabkmdhkfbcldaaGreatJL11
import Derived.Deep.DeepCutAuto
import Derived.Test.YtabkmdhkfbcldaaGreatJL4
import Derived.Test.YtabkmdhkfbcldaaGreatJL5
import Derived.Deep.QuietTactic
import Derived.BigQuiet
namespace Go.Proofs.YtabkmdhkfbcldaaGreat
open Go.RowKit Go.Lib Go.Sort
instance : Inhabited Cl := ⟨cl0⟩
theorem own_empty {w : World} {base : Nat} {e : TypeId} {size : Nat} {v : Value} {xs : List Value} (h : w.ownsRow base e size v 0 xs) : ∃ p c, v = .slice p 0 c := by
 rcases h.2 with ⟨rfl, _⟩ | ⟨g, c, cur, rfl, _⟩
 ·exact ⟨_, _, rfl⟩
 ·exact ⟨_, _, rfl⟩
theorem sortc_any {base : Nat} {v : Value} {ys : List Cl} {w : World} (h : w.ownsRow base 35 8 v ys.length (ys.flatMap Cl.cellsLn)) (hlen : ys.length ≤ 1000000) :
  Calls Tryz.prog 45 #[v, .func (.func 46) #[] #[]] w fun e w' => e = .returned (.tuple #[]) ∧
   ∃ ys' : List Cl, ys'.Perm ys ∧ ys'.Pairwise (fun a b => a.fr ≤ b.fr) ∧ w'.ownsRow base 35 8 v ys.length (ys'.flatMap Cl.cellsLn) ∧ w.grownBy w' v.ownBlock := by
 by_cases h0 : ys.length = 0
 ·rw [h0] at h
  obtain ⟨p, c, rfl⟩ := own_empty h
  refine (Tryz.slices_SortFunc_call_none (α := Cl) p c _ w).mono ?_
  rintro e w' ⟨rfl, rfl⟩
  have : ys = [] := List.eq_nil_of_length_eq_zero h0
  subst this
  exact ⟨rfl, [], List.Perm.refl _, List.Pairwise.nil, h, ⟨rfl, rfl, rfl, Nat.le_refl _, fun _ _ _ => rfl⟩⟩
 ·obtain ⟨g, c, rfl, hge, hlt, hnc, hcm⟩ := own_block h (by omega)
  have eg : ∀ args w, (callFunc 46 args).run Tryz.prog w = .ok (.enter 46 args) w := enters_of Tryz.func46 (by kernel_rfl) rfl
  have hsz : ys.toArray.size = ys.length := by simp
  have hH : HoldsK Cl.cellsLn 8 w g 0 ys.toArray := own_holds id h (flatK Cl.cellsLn 8 ys.toArray) (by rw [List.map_id, flatK_list Cl.cellsLn 8 (fun _ => rfl)])
  have hcon := Tryz.slices_SortFunc_call (α := Cl) 8 Tryz.isAgg35 Tryz.sizeOf35 Cl.cellsLn (fun _ => rfl) (fun x v hv => by simp [Cl.cellsLn] at hv; rcases hv with rfl | rfl | rfl | rfl | rfl | rfl | rfl | rfl <;> rfl) (fun a b => Lib.compareInt a.fr b.fr) (swo_cmp Cl.fr) 46 #[] g 0 c ys.toArray w eg (fun _ _ _ _ a b => cmp30_any a b _) hH hlt (by rw [hsz]; omega)
  rw [hsz] at hcon
  refine hcon.mono ?_
  rintro e w' ⟨rfl, d', n, os, hp, hs, rfl⟩
  have hd' : d'.size = ys.length := hp.1
  obtain ⟨o1, o2⟩ := own_putRow id h (flatK Cl.cellsLn 8 d') (by rw [size_flatK, hd']) n os
  rw [List.map_id, flatK_list Cl.cellsLn 8 (fun _ => rfl)] at o1
  refine ⟨rfl, d'.toList, by have := perm_all (by rw [hsz]; exact hp : PermIn 0 ys.toArray.size ys.toArray d'); simpa using this, ?_, o1, o2⟩
  refine (sorted_all hd' hs).imp fun {a b} hab => ?_
  rw [lt_cmp] at hab
  simpa using hab
theorem fin_vals {n : Nat} : ∀ (ys : List Nat), (∀ i ∈ ys, i < n) → ∃ d : List (Fin n), d.map Fin.val = ys
 | [], _ => ⟨[], rfl⟩
 | i :: ys, h => by
  obtain ⟨d, hd⟩ := fin_vals ys (fun j hj => h j (List.mem_cons_of_mem _ hj))
  exact ⟨⟨i, h i (List.mem_cons_self ..)⟩ :: d, by simp [hd]⟩
theorem sorti_any {l : List Cl} {p : Option Addr} {lc bl base : Nat} {v : Value} {ys : List Nat} {w : World} (h : w.ownsRow base 3 1 v ys.length (ys.map natVLn)) (hlen : ys.length ≤ 1000000) (hlt : ∀ i ∈ ys, i < l.length)
  (hcell : w.cell? ⟨bl, 0, none⟩ = some (.slice p l.length lc)) (hrow : Row w p (l.flatMap Cl.cellsLn)) (hbl : v.ownBlock ≠ some bl) (hpb : 0 < ys.length → ∀ a, p = some a → v.ownBlock ≠ some a.block) :
  Calls Tryz.prog 52 #[v, .func (.func 51) #[] #[.pointer (some ⟨bl, 0, none⟩)]] w fun e w' => e = .returned (.tuple #[]) ∧
   ∃ ys' : List Nat, ys'.Perm ys ∧ ByFr l ys' ∧ w'.ownsRow base 3 1 v ys.length (ys'.map natVLn) ∧ w.grownBy w' v.ownBlock := by
 by_cases h0 : ys.length = 0
 ·rw [h0] at h
  obtain ⟨q, c, rfl⟩ := own_empty h
  refine (Tryz.slices_SortFunc_none (α := Cl) q c _ w).mono ?_
  rintro e w' ⟨rfl, rfl⟩
  have : ys = [] := List.eq_nil_of_length_eq_zero h0
  subst this
  exact ⟨rfl, [], List.Perm.refl _, List.Pairwise.nil, h, ⟨rfl, rfl, rfl, Nat.le_refl _, fun _ _ _ => rfl⟩⟩
 ·obtain ⟨g, c, rfl, hge, hgl, hnc, hcm⟩ := own_block h (by omega)
  have hl0 : 0 < l.length := by
   obtain ⟨x, hx⟩ := List.exists_mem_of_ne_nil ys (fun e => h0 (by rw [e]; rfl))
   have := hlt x hx; omega
  haveI : Inhabited (Fin l.length) := ⟨⟨0, hl0⟩⟩
  obtain ⟨d, hd⟩ := fin_vals ys hlt
  subst hd
  have eg : ∀ args w, (callFunc 51 args).run Tryz.prog w = .ok (.enter 51 args) w := enters_of Tryz.func51 (by kernel_rfl) rfl
  have hsz : d.toArray.size = (d.map Fin.val).length := by simp
  have hH : Holds (fun i : Fin l.length => natVLn i.val) w g 0 d.toArray := own_holds _ h d.toArray (by simp)
  have hblk : bl ≠ g := fun e => hbl (by rw [e]; rfl)
  have hcon := Tryz.slices_SortFunc (α := Fin l.length) (fun i => natVLn i.val) (fun _ => rfl) (fun a b => Lib.compareInt (cAt l a.val).fr (cAt l b.val).fr) (swo_cmp fun a : Fin l.length => (cAt l a.val).fr) 51 #[.pointer (some ⟨bl, 0, none⟩)] g 0 c d.toArray w eg (fun m os dk hdk a b => by
   obtain ⟨_, o2⟩ := own_putRow (fun i : Fin l.length => natVLn i.val) h dk (by rw [hdk, hsz, Nat.mul_one]) m os
   have hc2 := o2.cell hcell (by intro e; injection e with e; exact hblk e)
   have hr2 := hrow.kept o2 (fun a ha e => hpb (by omega) a ha e.symm)
   refine (cmp36_any l bl lc p a.val b.val a.isLt b.isLt _ hc2 hr2).mono ?_
   rintro e w' ⟨rfl, q, rfl⟩
   exact ⟨rfl, q, #[], by rw [grow_empty]; rfl⟩) hH hgl (by rw [hsz]; omega)
  rw [hsz] at hcon
  refine hcon.mono ?_
  rintro e w' ⟨rfl, d', n, os, hp, hs, rfl⟩
  have hd' : d'.size = (d.map Fin.val).length := hp.1.trans hsz
  obtain ⟨o1, o2⟩ := own_putRow (fun i : Fin l.length => natVLn i.val) h d' (by rw [hd', Nat.mul_one]) n os
  have hperm : d'.toList.Perm d := by have := perm_all (by rw [hsz]; exact hp : PermIn 0 d.toArray.size d.toArray d'); simpa using this
  refine ⟨rfl, d'.toList.map Fin.val, hperm.map _, ?_, by rw [List.map_map]; exact o1, o2⟩
  unfold ByFr
  rw [List.pairwise_map]
  refine (sorted_all hd' hs).imp fun {a b} hab => ?_
  rw [lt_cmp (fun a : Fin l.length => (cAt l a.val).fr)] at hab
  simpa using hab
end Go.Proofs.YtabkmdhkfbcldaaGreat
namespace Go.Proofs.YtabkmdhkfbcldaaGreat
open Go.RowKit
set_option maxHeartbeats 8000000 in
theorem one_anyLn (a : Cl) (w : World) : Calls Tryz.prog 44 #[.agg a.cellsLn.toArray] w fun e w' => e = .returned (.bool (oneB a)) ∧ Below w.heap.size w w' := by
 obtain ⟨aw, ak, ay, av, af, at_, aa, ae⟩ := a
 show Calls Tryz.prog 44 #[.agg #[.int .i64 aw, .int .i64 ak, .string ay, .int .i64 av, .int .i64 af, .int .i64 at_, .int .i64 aa, .int .i64 ae]] w _
 have HY := fun h => hid (@one_yes ⟨aw, ak, ay, av, af, at_, aa, ae⟩ h)
 have HN := fun h => hid (@one_no ⟨aw, ak, ay, av, af, at_, aa, ae⟩ h)
 generalize oneB ⟨aw, ak, ay, av, af, at_, aa, ae⟩ = r at HY HN
 go_enter Tryz.func44, Tryz.ntmps44
 go_wp2
 all_goals (go_ret; refine ⟨ret_bool (by_val (fun hx => ?_) (fun hx => ?_)), (Below.refl _ _).alloc (Nat.le_refl _) _⟩)
 all_goals (try simp only [beq_iff_eq, beq_eq_false_iff_ne, bne_iff_ne, bne_eq_false_iff_eq, ne_eq, decide_eq_true_eq, decide_eq_false_iff_not, Bool.or_eq_false_iff, Bool.or_eq_true, Bool.and_eq_true, Bool.and_eq_false_iff, Bool.not_eq_true', Bool.not_eq_false'] at *)
 all_goals first
  | (exfalso; revert hx; decide)
  | (refine (HN ?_).out; rintro ⟨h1, h2, h3, h4, h5, h6, h7, h8⟩; dsimp only at h1 h2 h3 h4 h5 h6 h7 h8; omega)
  | (refine (HY ⟨?_, ?_, ?_, ?_, ?_, ?_, ?_, ?_⟩).out <;> dsimp only <;> omega)
  | (refine (HY ⟨?_, ?_, ?_, ?_, ?_, ?_, ?_, ?_⟩).out <;> dsimp only <;> simp_all <;> omega)
end Go.Proofs.YtabkmdhkfbcldaaGreat
namespace Go.Proofs.YtabkmdhkfbcldaaGreat
open Go.RowKit
theorem EInt : Elem Tryz.prog 40 3 1 8 (.int .i64 0) := Elem.mk' Tryz.underlying40 (by kernel_rfl) rfl (by decide)
def spC (k : ByteArray) (s : Sp) (i : Nat) (c : Cl) : Sp :=
 if c.key ≠ k then s
 else if c.to = -1 then (if c.kind = 1 then (if s.s then s else { s with p := s.p ++ [i] }) else s)
 else if c.kind = 1 ∧ c.err = 0 then { s with p := (if s.s then s.p else []) ++ [i], s := true }
 else if c.err = 4 then { s with b := s.b ++ [i] }
 else { s with a := s.a ++ [i] }
theorem spStep_c (l : List Cl) (k : ByteArray) (s : Sp) (i : Nat) : spStep l k s i = spC k s i (cAt l i) := rfl
abbrev OwnI (W : World) (base : Nat) (v : Value) (l : List Nat) : Prop := W.ownsRow base 3 1 v l.length (l.map natVLn)
structure SpI (B : Nat) (W : World) (vb va vp : Value) (s : Sp) : Prop where
 blk : W.heap[B + 1]? = some (.cells #[vb, va, vp, .bool s.s] 109 (0, 0))
 res : W.heap[B]? = some (.cells #[.slice none 0 0, .slice none 0 0, .slice none 0 0, .bool false] 109 (0, 0))
 ob : OwnI W (B + 2) vb s.b
 oa : OwnI W (B + 2) va s.a
 op : OwnI W (B + 2) vp s.p
 ba : Apart vb va
 bp : Apart vb vp
 ap : Apart va vp
variable {B : Nat} {W W1 W2 W' : World} {vb va vp v : Value} {s : Sp} {i : Nat}
theorem SpI.below (h : SpI B W vb va vp s) (hb : Below W.heap.size W W') : SpI B W' vb va vp s :=
 ⟨(hb.block _ (Array.getElem?_eq_some_iff.1 h.blk).1).trans h.blk, (hb.block _ (Array.getElem?_eq_some_iff.1 h.res).1).trans h.res, own_below h.ob hb, own_below h.oa hb, own_below h.op hb, h.ba, h.bp, h.ap⟩
theorem SpI.lt (h : SpI B W vb va vp s) : B + 2 ≤ W.heap.size := (Array.getElem?_eq_some_iff.1 h.blk).1
theorem own_ne {base : Nat} {v : Value} {l : List Nat} (h : OwnI W (base + 2) v l) : ∀ g, v.ownBlock = some g → g ≠ base + 1 ∧ g ≠ base := fun g hg => by
 have := own_ge h g hg; omega
theorem blk_grown {base g : Nat} {v : Value} {l : List Nat} {o : Obj} (h : OwnI W (base + 2) v l) (hg : W.grownBy W' v.ownBlock) (hlt : g < base + 2) (hb : W.heap[g]? = some o) : W'.heap[g]? = some o :=
 (hg.block g (Array.getElem?_eq_some_iff.1 hb).1 (fun e => by have := own_ge h g e.symm; omega)).trans hb
theorem SpI.appP (h : SpI B W1 vb va vp s) (hg : W1.grownBy W2 vp.ownBlock) (hs : Stayed W1 vp v) (ho : OwnI W2 (B + 2) v (s.p ++ [i])) : SpI B (W2.setCell ⟨B + 1, 2, none⟩ v) vb va v { s with p := s.p ++ [i] } :=
 ⟨heap_setCell_same W2 _ 2 _ _ v (blk_grown h.op hg (by omega) h.blk), (Below.heap_setCell _ _ _ _ (by simp)).trans (blk_grown h.op hg (by omega) h.res),
  own_setO (own_kept h.ob hg h.bp) _ _ (fun g e => (own_ne h.ob g e).1), own_setO (own_kept h.oa hg h.ap) _ _ (fun g e => (own_ne h.oa g e).1), own_setO ho _ _ (fun g e => (own_ne ho g e).1),
  h.ba, (h.bp.symm.stayed hs (own_lt h.ob)).symm, (h.ap.symm.stayed hs (own_lt h.oa)).symm⟩
theorem SpI.appB (h : SpI B W1 vb va vp s) (hg : W1.grownBy W2 vb.ownBlock) (hs : Stayed W1 vb v) (ho : OwnI W2 (B + 2) v (s.b ++ [i])) : SpI B (W2.setCell ⟨B + 1, 0, none⟩ v) v va vp { s with b := s.b ++ [i] } :=
 ⟨heap_setCell_same W2 _ 0 _ _ v (blk_grown h.ob hg (by omega) h.blk), (Below.heap_setCell _ _ _ _ (by simp)).trans (blk_grown h.ob hg (by omega) h.res),
  own_setO ho _ _ (fun g e => (own_ne ho g e).1), own_setO (own_kept h.oa hg h.ba.symm) _ _ (fun g e => (own_ne h.oa g e).1), own_setO (own_kept h.op hg h.bp.symm) _ _ (fun g e => (own_ne h.op g e).1),
  h.ba.stayed hs (own_lt h.oa), h.bp.stayed hs (own_lt h.op), h.ap⟩
theorem SpI.appA (h : SpI B W1 vb va vp s) (hg : W1.grownBy W2 va.ownBlock) (hs : Stayed W1 va v) (ho : OwnI W2 (B + 2) v (s.a ++ [i])) : SpI B (W2.setCell ⟨B + 1, 1, none⟩ v) vb v vp { s with a := s.a ++ [i] } :=
 ⟨heap_setCell_same W2 _ 1 _ _ v (blk_grown h.oa hg (by omega) h.blk), (Below.heap_setCell _ _ _ _ (by simp)).trans (blk_grown h.oa hg (by omega) h.res),
  own_setO (own_kept h.ob hg h.ba) _ _ (fun g e => (own_ne h.ob g e).1), own_setO ho _ _ (fun g e => (own_ne ho g e).1), own_setO (own_kept h.op hg h.ap.symm) _ _ (fun g e => (own_ne h.op g e).1),
  (h.ba.symm.stayed hs (own_lt h.ob)).symm, h.bp, h.ap.stayed hs (own_lt h.op)⟩
theorem SpI.sure (h : SpI B W vb va vp s) : SpI B (W.setCell ⟨B + 1, 3, none⟩ (.bool true)) vb va vp { s with s := true } :=
 ⟨heap_setCell_same W _ 3 _ _ _ h.blk, (Below.heap_setCell _ _ _ _ (by simp)).trans h.res, own_setO h.ob _ _ (fun g e => (own_ne h.ob g e).1), own_setO h.oa _ _ (fun g e => (own_ne h.oa g e).1), own_setO h.op _ _ (fun g e => (own_ne h.op g e).1), h.ba, h.bp, h.ap⟩
theorem SpI.nilP (h : SpI B W vb va vp s) : SpI B (W.setCell ⟨B + 1, 2, none⟩ (.slice none 0 0)) vb va (.slice none 0 0) { s with p := [] } :=
 ⟨heap_setCell_same W _ 2 _ _ _ h.blk, (Below.heap_setCell _ _ _ _ (by simp)).trans h.res, own_setO h.ob _ _ (fun g e => (own_ne h.ob g e).1), own_setO h.oa _ _ (fun g e => (own_ne h.oa g e).1), ⟨rfl, .inl ⟨rfl, rfl⟩⟩, h.ba, (Apart.nil _).symm, (Apart.nil _).symm⟩
theorem SpI.cells (h : SpI B W vb va vp s) : W.cell? ⟨B + 1, 0, none⟩ = some vb ∧ W.cell? ⟨B + 1, 1, none⟩ = some va ∧ W.cell? ⟨B + 1, 2, none⟩ = some vp ∧ W.cell? ⟨B + 1, 3, none⟩ = some (.bool s.s) ∧
  W.frozen? ⟨B + 1, 0, none⟩ = false ∧ W.frozen? ⟨B + 1, 1, none⟩ = false ∧ W.frozen? ⟨B + 1, 2, none⟩ = false ∧ W.frozen? ⟨B + 1, 3, none⟩ = false :=
 ⟨cell_of_row _ _ 0 _ _ _ h.blk, cell_of_row _ _ 1 _ _ _ h.blk, cell_of_row _ _ 2 _ _ _ h.blk, cell_of_row _ _ 3 _ _ _ h.blk, frozen_of_row _ _ _ _ _ h.blk, frozen_of_row _ _ _ _ _ h.blk, frozen_of_row _ _ _ _ _ h.blk, frozen_of_row _ _ _ _ _ h.blk⟩
theorem blk_cells {W : World} {b : Nat} {v0 v1 v2 v3 : Value} (h : W.heap[b]? = some (.cells #[v0, v1, v2, v3] 109 (0, 0))) : W.cell? ⟨b, 0, none⟩ = some v0 ∧ W.cell? ⟨b, 1, none⟩ = some v1 ∧ W.cell? ⟨b, 2, none⟩ = some v2 ∧ W.cell? ⟨b, 3, none⟩ = some v3 ∧
  W.frozen? ⟨b, 0, none⟩ = false ∧ W.frozen? ⟨b, 1, none⟩ = false ∧ W.frozen? ⟨b, 2, none⟩ = false ∧ W.frozen? ⟨b, 3, none⟩ = false :=
 ⟨cell_of_row _ _ 0 _ _ _ h, cell_of_row _ _ 1 _ _ _ h, cell_of_row _ _ 2 _ _ _ h, cell_of_row _ _ 3 _ _ _ h, frozen_of_row _ _ _ _ _ h, frozen_of_row _ _ _ _ _ h, frozen_of_row _ _ _ _ _ h, frozen_of_row _ _ _ _ _ h⟩
theorem sp_start (w : World) : SpI w.heap.size ((w.alloc (.cells #[.slice none 0 0, .slice none 0 0, .slice none 0 0, .bool false] 109)).alloc (.cells #[.slice none 0 0, .slice none 0 0, .slice none 0 0, .bool false] 109)) (.slice none 0 0) (.slice none 0 0) (.slice none 0 0) sp0 := by
 refine ⟨?_, (Below.heap_alloc _ _ _ (by simp)).trans (heap_alloc_new w _), ⟨rfl, .inl ⟨rfl, rfl⟩⟩, ⟨rfl, .inl ⟨rfl, rfl⟩⟩, ⟨rfl, .inl ⟨rfl, rfl⟩⟩, Apart.nil _, Apart.nil _, Apart.nil _⟩
 have := heap_alloc_new (w.alloc (.cells #[.slice none 0 0, .slice none 0 0, .slice none 0 0, .bool false] 109)) (.cells #[.slice none 0 0, .slice none 0 0, .slice none 0 0, .bool false] 109)
 rwa [World.size_alloc] at this
end Go.Proofs.YtabkmdhkfbcldaaGreat
namespace Go.Proofs.YtabkmdhkfbcldaaGreat
open Go.RowKit
def SplitTell (w : World) (s : Sp) (e : Ending) (w' : World) : Prop :=
 ∃ vb va vp, e = .returned (.agg #[vb, va, vp, .bool s.s]) ∧ OwnI w' w.heap.size vb s.b ∧ OwnI w' w.heap.size va s.a ∧ OwnI w' w.heap.size vp s.p ∧ Apart vb va ∧ Apart vb vp ∧ Apart va vp ∧ Below w.heap.size w w'
theorem SpI.done {w W : World} {pb pa pp : Option Addr} {nb cb na ca np cp : Nat} {s : Sp} (h : SpI w.heap.size W (.slice pb nb cb) (.slice pa na ca) (.slice pp np cp) s) (hb : Below w.heap.size w W) :
  SplitTell w s (.returned (.agg #[.slice pb nb cb, .slice pa na ca, .slice pp np cp, .bool s.s])) ((((W.setCell ⟨w.heap.size, 0, none⟩ (.slice pb nb cb)).setCell ⟨w.heap.size, 1, none⟩ (.slice pa na ca)).setCell ⟨w.heap.size, 2, none⟩ (.slice pp np cp)).setCell ⟨w.heap.size, 3, none⟩ (.bool s.s)) := by
 have each : ∀ {v : Value} {l : List Nat}, OwnI W (w.heap.size + 2) v l → OwnI ((((W.setCell ⟨w.heap.size, 0, none⟩ (.slice pb nb cb)).setCell ⟨w.heap.size, 1, none⟩ (.slice pa na ca)).setCell ⟨w.heap.size, 2, none⟩ (.slice pp np cp)).setCell ⟨w.heap.size, 3, none⟩ (.bool s.s)) w.heap.size v l := fun {v l} ho => by
  have hn := own_ne ho
  exact own_lower (own_setO (own_setO (own_setO (own_setO ho _ _ (fun g e => (hn g e).2)) _ _ (fun g e => (hn g e).2)) _ _ (fun g e => (hn g e).2)) _ _ (fun g e => (hn g e).2)) (by omega)
 exact ⟨_, _, _, rfl, each h.ob, each h.oa, each h.op, h.ba, h.bp, h.ap, (((hb.setCell (by simp) _).setCell (by simp) _).setCell (by simp) _).setCell (by simp) _⟩
theorem split_len (l : List Cl) (key : ByteArray) (k : Nat) : (splitTo l key k).b.length ≤ k ∧ (splitTo l key k).a.length ≤ k ∧ (splitTo l key k).p.length ≤ k := by
 have h : ∀ P, (idxTo l k P).length ≤ k := fun P => by have := List.length_filter_le (fun i => P (cAt l i)) (List.range k); simpa [idxTo] using this
 rw [split_is]
 refine ⟨h _, h _, ?_⟩
 show (if _ then _ else _ : List Nat).length ≤ k
 split <;> exact h _
theorem grow_store {B off : Nat} {A W1 W2 : World} {v u : Value} {l : List Nat} (hb : Below B A W1) (hg : W1.grownBy W2 v.ownBlock) (ho : OwnI W1 (B + 2) v l) (hB : B ≤ W1.heap.size := by simp; omega) : Below B A (W2.setCell ⟨B + 1, off, none⟩ u) :=
 (hb.grown hg hB (fun g e => by have := own_ge ho g e; omega)).setCell (by simp) _
def SplitRel (l : List Cl) (key : ByteArray) (w : World) (i : Value) (wr : World) : Prop :=
 ∃ (k : Nat) (vb va vp : Value), k ≤ l.length ∧ i = .int .i64 k ∧ SpI w.heap.size wr vb va vp (splitTo l key k) ∧ Below w.heap.size w wr
set_option maxRecDepth 20000 in
set_option maxHeartbeats 4000000 in
theorem split_any (l : List Cl) (p : Option Addr) (c : Nat) (key : ByteArray) (w : World) (hl : l.length ≤ 1000000) (hc : l.length ≤ c) (hrow : Row w p (l.flatMap Cl.cellsLn)) :
  Calls Tryz.prog 50 #[.slice p l.length c, .string key] w (SplitTell w (splitTo l key l.length)) := by
 have HR := hid hrow
 have HS0 := hid (sp_start w)
 clear hrow
 go_enter Tryz.func50, Tryz.ntmps50
 go_wp2
 go_loopw [10] (SplitRel l key w) (fun i _ => l.length - (intOf i).toNat)
 case atStart => exact ⟨0, _, _, _, Nat.zero_le _, rfl, HS0.out, ((Below.refl _ _).alloc (Nat.le_refl _) _).alloc (by simp) _⟩
 case round =>
  obtain ⟨k, vb, va, vp, hk, rfl, hsp, hb⟩ := hrel
  have HSP := hid hsp
  have HB := hid hb
  clear hsp hb
  by_cases hlt : k < l.length
  ·obtain ⟨pb, cb, rfl, _⟩ := own_shape HSP.out.ob
   obtain ⟨pa, ca, rfl, _⟩ := own_shape HSP.out.oa
   obtain ⟨pp, cp, rfl, _⟩ := own_shape HSP.out.op
   obtain ⟨c0, c1, c2, c3, f0, f1, f2, f3⟩ := HSP.out.cells
   obtain ⟨b, o, rfl, hbw, _⟩ := (HR.out.below HB.out).at (by have := flat_len Cl.cellsLn 8 (fun _ => rfl) l; omega)
   obtain ⟨d0, d1, d2, d3, d4, d5, d6, d7⟩ := cl_cat (HR.out.below HB.out) k hlt
   have HSt := hid ((split_succ (l := l) (k := key) k).trans (spStep_c l key (splitTo l key k) k))
   obtain ⟨hz1, hz2, hz3⟩ := split_len l key k
   have hsz := HSP.out.lt
   obtain ⟨⟨cw, ckd, cky, cva, cfr, cto, can, cer⟩, hcc⟩ : ∃ x, x = cAt l k := ⟨_, rfl⟩
   rw [← hcc] at d0 d1 d2 d3 d4 d5 d6 d7 HSt
   dsimp only at d0 d1 d2 d3 d4 d5 d6 d7
   clear hcc
   generalize hgs : splitTo l key k = s at *
   obtain ⟨sb, sa, sp, su⟩ := s
   dsimp only at c0 c1 c2 c3 hz1 hz2 hz3
   clear hgs
   have hsz1 : w.heap.size + 1 < wr.heap.size := by omega
   have hsz2 : w.heap.size + 1 < wr.heap.size + 1 := by omega
   have HC := hid (HSP.out.below ((Below.refl _ _).alloc (Nat.le_refl _) (.cells #[.int .i64 cw, .int .i64 ckd, .string cky, .int .i64 cva, .int .i64 cfr, .int .i64 cto, .int .i64 can, .int .i64 cer] 35)))
   have HBC := hid (HB.out.alloc HB.out.size (.cells #[.int .i64 cw, .int .i64 ckd, .string cky, .int .i64 cva, .int .i64 cfr, .int .i64 cto, .int .i64 can, .int .i64 cer] 35))
   have HX := hid (fun o1 : Obj => HC.out.below ((Below.refl _ _).alloc (Nat.le_refl _) o1))
   have HBX := hid (fun o1 : Obj => HBC.out.alloc HBC.out.size o1)
   by_cases hkey : cky = key
   ·subst hkey
    by_cases hto : cto = -1
    ·subst hto
     by_cases hkd : ckd = 1
     ·subst hkd
      cases su with
      | true =>
       have HV : Hid (splitTo l cky (k + 1) = ⟨sb, sa, sp, true⟩) := HSt.out.trans (by simp [spC])
       clear HSt
       go_wp2
       exact ⟨⟨k + 1, _, _, _, by omega, by go_num, by rw [HV.out]; exact HC.out, HBC.out⟩, by simp [intOf]; omega⟩
      | false =>
       have HV : Hid (splitTo l cky (k + 1) = ⟨sb, sa, sp ++ [k], false⟩) := HSt.out.trans (by simp [spC])
       clear HSt
       go_wp2_with ((with_reducible show wpList _ _ _ (⟨some 42, _, _, _, _, _⟩ :: _) _ _); go_loud (refine wpList_app EInt rfl _ _ rfl (w.heap.size + 2) _ _ _ rfl (HX.out _).op _ 1 1 [natVLn k] rfl rfl (by simp) (row_newAt _ _ _ _ (by simp)) (by simp [natVLn, Value.oneCell']) (by unfold maxLen; simp <;> omega) (by simp <;> omega) (by simp <;> omega) ?_); intro v2 w2 ho hg hs; have HO := hid ho; have HG := hid hg; have HT := hid hs; obtain ⟨pv, cv, rfl, _⟩ := own_shape ho; obtain ⟨e0, e1, e2, e3, e4, e5, e6, e7⟩ := blk_cells (blk_grown (HX.out _).op hg (by omega) (HX.out _).blk); clear ho hg hs)
       exact ⟨⟨k + 1, _, _, _, by omega, by go_num, by rw [HV.out]; exact SpI.appP (HX.out _) HG.out HT.out (by simpa [OwnI] using HO.out), grow_store (HBX.out _) HG.out (HX.out _).op⟩, by simp [intOf]; omega⟩
     ·have hd1 : (ckd == 1) = false := by simpa using hkd
      have HV : Hid (splitTo l cky (k + 1) = ⟨sb, sa, sp, su⟩) := HSt.out.trans (by simp [spC, hkd])
      clear HSt
      go_wp2
      exact ⟨⟨k + 1, _, _, _, by omega, by go_num, by rw [HV.out]; exact HC.out, HBC.out⟩, by simp [intOf]; omega⟩
    ·have ht1 : (cto == -1) = false := by simpa using hto
     by_cases hpt : ckd = 1 ∧ cer = 0
     ·obtain ⟨rfl, rfl⟩ := hpt
      cases su with
      | true =>
       have HX2 := hid (fun (o2 o1 : Obj) => (HSP.out.sure.below ((Below.refl _ _).alloc (Nat.le_refl _) o2)).below ((Below.refl _ _).alloc (Nat.le_refl _) o1))
       have HBX2 := hid (fun (o2 o1 : Obj) => ((HB.out.setCell (p := ⟨w.heap.size + 1, 3, none⟩) (by simp) (.bool true)).alloc (by simp; omega) o2).alloc (by simp; omega) o1)
       have HV : Hid (splitTo l cky (k + 1) = ⟨sb, sa, sp ++ [k], true⟩) := HSt.out.trans (by simp [spC, hto])
       clear HSt
       go_wp2_with ((with_reducible show wpList _ _ _ (⟨some 66, _, _, _, _, _⟩ :: _) _ _); go_loud (refine wpList_app EInt rfl _ _ rfl (w.heap.size + 2) _ _ _ rfl (HX2.out _ _).op _ 1 1 [natVLn k] rfl rfl (by simp) (row_newAt _ _ _ _ (by simp)) (by simp [natVLn, Value.oneCell']) (by unfold maxLen; simp <;> omega) (by simp <;> omega) (by simp <;> omega) ?_); intro v2 w2 ho hg hs; have HO := hid ho; have HG := hid hg; have HT := hid hs; obtain ⟨pv, cv, rfl, _⟩ := own_shape ho; obtain ⟨e0, e1, e2, e3, e4, e5, e6, e7⟩ := blk_cells (blk_grown (HX2.out _ _).op hg (by omega) (HX2.out _ _).blk); clear ho hg hs)
       exact ⟨⟨k + 1, _, _, _, by omega, by go_num, by rw [HV.out]; exact SpI.appP (HX2.out _ _) HG.out HT.out (by simpa [OwnI] using HO.out), grow_store (HBX2.out _ _) HG.out (HX2.out _ _).op⟩, by simp [intOf]; omega⟩
      | false =>
       have HX2 := hid (fun (o2 o1 : Obj) => (HSP.out.nilP.sure.below ((Below.refl _ _).alloc (Nat.le_refl _) o2)).below ((Below.refl _ _).alloc (Nat.le_refl _) o1))
       have HBX2 := hid (fun (o2 o1 : Obj) => (((HB.out.setCell (p := ⟨w.heap.size + 1, 2, none⟩) (by simp) (.slice none 0 0)).setCell (p := ⟨w.heap.size + 1, 3, none⟩) (by simp) (.bool true)).alloc (by simp; omega) o2).alloc (by simp; omega) o1)
       have HV : Hid (splitTo l cky (k + 1) = ⟨sb, sa, [] ++ [k], true⟩) := HSt.out.trans (by simp [spC, hto])
       clear HSt
       go_wp2_with ((with_reducible show wpList _ _ _ (⟨some 66, _, _, _, _, _⟩ :: _) _ _); go_loud (refine wpList_app EInt rfl _ _ rfl (w.heap.size + 2) _ _ _ rfl (HX2.out _ _).op _ 1 1 [natVLn k] rfl rfl (by simp) (row_newAt _ _ _ _ (by simp)) (by simp [natVLn, Value.oneCell']) (by unfold maxLen; simp <;> omega) (by simp <;> omega) (by simp <;> omega) ?_); intro v2 w2 ho hg hs; have HO := hid ho; have HG := hid hg; have HT := hid hs; obtain ⟨pv, cv, rfl, _⟩ := own_shape ho; obtain ⟨e0, e1, e2, e3, e4, e5, e6, e7⟩ := blk_cells (blk_grown (HX2.out _ _).op hg (by omega) (HX2.out _ _).blk); clear ho hg hs)
       exact ⟨⟨k + 1, _, _, _, by omega, by go_num, by rw [HV.out]; exact SpI.appP (HX2.out _ _) HG.out HT.out (by simpa [OwnI] using HO.out), grow_store (HBX2.out _ _) HG.out (HX2.out _ _).op⟩, by simp [intOf]; omega⟩
     ·by_cases hkd : ckd = 1
      ·have he0 : cer ≠ 0 := fun e => hpt ⟨hkd, e⟩
       have he1 : (cer == 0) = false := by simpa using he0
       subst hkd
       by_cases he4 : cer = 4
       ·subst he4
        have HV : Hid (splitTo l cky (k + 1) = ⟨sb ++ [k], sa, sp, su⟩) := HSt.out.trans (by simp [spC, hto])
        clear HSt
        go_wp2_with ((with_reducible show wpList _ _ _ (⟨some 76, _, _, _, _, _⟩ :: _) _ _); go_loud (refine wpList_app EInt rfl _ _ rfl (w.heap.size + 2) _ _ _ rfl (HX.out _).ob _ 1 1 [natVLn k] rfl rfl (by simp) (row_newAt _ _ _ _ (by simp)) (by simp [natVLn, Value.oneCell']) (by unfold maxLen; simp <;> omega) (by simp <;> omega) (by simp <;> omega) ?_); intro v2 w2 ho hg hs; have HO := hid ho; have HG := hid hg; have HT := hid hs; obtain ⟨pv, cv, rfl, _⟩ := own_shape ho; obtain ⟨e0, e1, e2, e3, e4, e5, e6, e7⟩ := blk_cells (blk_grown (HX.out _).ob hg (by omega) (HX.out _).blk); clear ho hg hs)
        exact ⟨⟨k + 1, _, _, _, by omega, by go_num, by rw [HV.out]; exact SpI.appB (HX.out _) HG.out HT.out (by simpa [OwnI] using HO.out), grow_store (HBX.out _) HG.out (HX.out _).ob⟩, by simp [intOf]; omega⟩
       ·have he5 : (cer == 4) = false := by simpa using he4
        have HV : Hid (splitTo l cky (k + 1) = ⟨sb, sa ++ [k], sp, su⟩) := HSt.out.trans (by simp [spC, hto, he0, he4])
        clear HSt
        go_wp2_with ((with_reducible show wpList _ _ _ (⟨some 19, _, _, _, _, _⟩ :: _) _ _); go_loud (refine wpList_app EInt rfl _ _ rfl (w.heap.size + 2) _ _ _ rfl (HX.out _).oa _ 1 1 [natVLn k] rfl rfl (by simp) (row_newAt _ _ _ _ (by simp)) (by simp [natVLn, Value.oneCell']) (by unfold maxLen; simp <;> omega) (by simp <;> omega) (by simp <;> omega) ?_); intro v2 w2 ho hg hs; have HO := hid ho; have HG := hid hg; have HT := hid hs; obtain ⟨pv, cv, rfl, _⟩ := own_shape ho; obtain ⟨e0, e1, e2, e3, e4, e5, e6, e7⟩ := blk_cells (blk_grown (HX.out _).oa hg (by omega) (HX.out _).blk); clear ho hg hs)
        exact ⟨⟨k + 1, _, _, _, by omega, by go_num, by rw [HV.out]; exact SpI.appA (HX.out _) HG.out HT.out (by simpa [OwnI] using HO.out), grow_store (HBX.out _) HG.out (HX.out _).oa⟩, by simp [intOf]; omega⟩
      ·have hd1 : (ckd == 1) = false := by simpa using hkd
       by_cases he4 : cer = 4
       ·subst he4
        have HV : Hid (splitTo l cky (k + 1) = ⟨sb ++ [k], sa, sp, su⟩) := HSt.out.trans (by simp [spC, hto, hkd])
        clear HSt
        go_wp2_with ((with_reducible show wpList _ _ _ (⟨some 76, _, _, _, _, _⟩ :: _) _ _); go_loud (refine wpList_app EInt rfl _ _ rfl (w.heap.size + 2) _ _ _ rfl (HX.out _).ob _ 1 1 [natVLn k] rfl rfl (by simp) (row_newAt _ _ _ _ (by simp)) (by simp [natVLn, Value.oneCell']) (by unfold maxLen; simp <;> omega) (by simp <;> omega) (by simp <;> omega) ?_); intro v2 w2 ho hg hs; have HO := hid ho; have HG := hid hg; have HT := hid hs; obtain ⟨pv, cv, rfl, _⟩ := own_shape ho; obtain ⟨e0, e1, e2, e3, e4, e5, e6, e7⟩ := blk_cells (blk_grown (HX.out _).ob hg (by omega) (HX.out _).blk); clear ho hg hs)
        exact ⟨⟨k + 1, _, _, _, by omega, by go_num, by rw [HV.out]; exact SpI.appB (HX.out _) HG.out HT.out (by simpa [OwnI] using HO.out), grow_store (HBX.out _) HG.out (HX.out _).ob⟩, by simp [intOf]; omega⟩
       ·have he5 : (cer == 4) = false := by simpa using he4
        have HV : Hid (splitTo l cky (k + 1) = ⟨sb, sa ++ [k], sp, su⟩) := HSt.out.trans (by simp [spC, hto, hkd, he4])
        clear HSt
        go_wp2_with ((with_reducible show wpList _ _ _ (⟨some 19, _, _, _, _, _⟩ :: _) _ _); go_loud (refine wpList_app EInt rfl _ _ rfl (w.heap.size + 2) _ _ _ rfl (HX.out _).oa _ 1 1 [natVLn k] rfl rfl (by simp) (row_newAt _ _ _ _ (by simp)) (by simp [natVLn, Value.oneCell']) (by unfold maxLen; simp <;> omega) (by simp <;> omega) (by simp <;> omega) ?_); intro v2 w2 ho hg hs; have HO := hid ho; have HG := hid hg; have HT := hid hs; obtain ⟨pv, cv, rfl, _⟩ := own_shape ho; obtain ⟨e0, e1, e2, e3, e4, e5, e6, e7⟩ := blk_cells (blk_grown (HX.out _).oa hg (by omega) (HX.out _).blk); clear ho hg hs)
        exact ⟨⟨k + 1, _, _, _, by omega, by go_num, by rw [HV.out]; exact SpI.appA (HX.out _) HG.out HT.out (by simpa [OwnI] using HO.out), grow_store (HBX.out _) HG.out (HX.out _).oa⟩, by simp [intOf]; omega⟩
   ·have hk3 := strNe hkey
    have HV : Hid (splitTo l key (k + 1) = ⟨sb, sa, sp, su⟩) := HSt.out.trans (by simp [spC, hkey])
    clear HSt
    go_wp2
    exact ⟨⟨k + 1, _, _, _, by omega, by go_num, by rw [HV.out]; exact HC.out, HBC.out⟩, by simp [intOf]; omega⟩
  ·have hke : k = l.length := by omega
   subst hke
   obtain ⟨pb, cb, rfl, _⟩ := own_shape HSP.out.ob
   obtain ⟨pa, ca, rfl, _⟩ := own_shape HSP.out.oa
   obtain ⟨pp, cp, rfl, _⟩ := own_shape HSP.out.op
   obtain ⟨c0, c1, c2, c3, _⟩ := HSP.out.cells
   obtain ⟨r0, r1, r2, r3, f0, f1, f2, f3⟩ := blk_cells HSP.out.res
   go_wp2
   exact bodyPost_ret (v := .agg #[.slice pb (splitTo l key l.length).b.length cb, .slice pa (splitTo l key l.length).a.length ca, .slice pp (splitTo l key l.length).p.length cp, .bool (splitTo l key l.length).s]) (by simp [results, Tryz.results50, go_sem, f0, f1, f2, f3, r0, r1, r2, r3]) rfl (HSP.out.done HB.out)
end Go.Proofs.YtabkmdhkfbcldaaGreat
namespace Go.Proofs.YtabkmdhkfbcldaaGreat
open Go.RowKit
theorem own_slice_row {w : World} {base : Nat} {e : TypeId} {size : Nat} {p : Option Addr} {m n c : Nat} {xs : List Value} (h : w.ownsRow base e size (.slice p m c) n xs) : Row w p xs := by
 obtain ⟨p', c', e1, hr⟩ := own_shape h
 cases e1
 exact hr
def RowTell (l : List Cl) (key : ByteArray) (w : World) (e : Ending) (w' : World) : Prop :=
 ∃ sb sa, Parts l key sb sa ∧ Below w.heap.size w w' ∧
  ((∃ r v, rowC l sb sa (splitTo l key l.length).p (splitTo l key l.length).s = some r ∧ e = .returned (.tuple #[v, .bool true]) ∧ OwnI w' w.heap.size v r) ∨
   (rowC l sb sa (splitTo l key l.length).p (splitTo l key l.length).s = none ∧ e = .returned (.tuple #[.slice none 0 0, .bool false])))
structure RwI (l : List Cl) (key : ByteArray) (w W : World) (g : Nat) (p : Option Addr) (c : Nat) (vb va vp : Value) (sb sa sp : List Nat) (su : Bool) : Prop where
 box : W.heap[w.heap.size]? = some (.cells #[.slice p l.length c] 32 (0, 0))
 blk : W.heap[g]? = some (.cells #[vb, va, vp, .bool su] 109 (0, 0))
 ob : OwnI W (w.heap.size + 1) vb sb
 oa : OwnI W (w.heap.size + 1) va sa
 op : OwnI W (w.heap.size + 1) vp sp
 ba : Apart vb va
 bp : Apart vb vp
 ap : Apart va vp
 gb : vb.ownBlock ≠ some g
 ga : va.ownBlock ≠ some g
 gp : vp.ownBlock ≠ some g
 below : Below w.heap.size w W
 ge : w.heap.size < g
variable {l : List Cl} {key : ByteArray} {w W W' : World} {g : Nat} {p : Option Addr} {c : Nat} {vb va vp : Value} {sb sa sp : List Nat} {su : Bool}
theorem RwI.belowI (h : RwI l key w W g p c vb va vp sb sa sp su) (hb : Below W.heap.size W W') : RwI l key w W' g p c vb va vp sb sa sp su :=
 ⟨(hb.block _ (Array.getElem?_eq_some_iff.1 h.box).1).trans h.box, (hb.block _ (Array.getElem?_eq_some_iff.1 h.blk).1).trans h.blk, own_below h.ob hb, own_below h.oa hb, own_below h.op hb, h.ba, h.bp, h.ap, h.gb, h.ga, h.gp, h.below.trans (hb.mono h.below.size), h.ge⟩
theorem RwI.sortB {sb' : List Nat} (h : RwI l key w W g p c vb va vp sb sa sp su) (hg : W.grownBy W' vb.ownBlock) (ho : OwnI W' (w.heap.size + 1) vb sb') : RwI l key w W' g p c vb va vp sb' sa sp su :=
 ⟨(hg.block _ (Array.getElem?_eq_some_iff.1 h.box).1 (fun e => by have := own_ge h.ob _ e.symm; omega)).trans h.box, (hg.block _ (Array.getElem?_eq_some_iff.1 h.blk).1 (fun e => h.gb e.symm)).trans h.blk, ho, own_kept h.oa hg h.ba.symm, own_kept h.op hg h.bp.symm, h.ba, h.bp, h.ap, h.gb, h.ga, h.gp,
  h.below.grown hg h.below.size (fun k e => by have := own_ge h.ob _ e; omega), h.ge⟩
theorem RwI.sortA {sa' : List Nat} (h : RwI l key w W g p c vb va vp sb sa sp su) (hg : W.grownBy W' va.ownBlock) (ho : OwnI W' (w.heap.size + 1) va sa') : RwI l key w W' g p c vb va vp sb sa' sp su :=
 ⟨(hg.block _ (Array.getElem?_eq_some_iff.1 h.box).1 (fun e => by have := own_ge h.oa _ e.symm; omega)).trans h.box, (hg.block _ (Array.getElem?_eq_some_iff.1 h.blk).1 (fun e => h.ga e.symm)).trans h.blk, own_kept h.ob hg h.ba, ho, own_kept h.op hg h.ap.symm, h.ba, h.bp, h.ap, h.gb, h.ga, h.gp,
  h.below.grown hg h.below.size (fun k e => by have := own_ge h.oa _ e; omega), h.ge⟩
theorem rw_start {w w1 : World} {s : Sp} {vb va vp : Value} (hob : OwnI w1 (w.heap.size + 1) vb s.b) (hoa : OwnI w1 (w.heap.size + 1) va s.a) (hop : OwnI w1 (w.heap.size + 1) vp s.p) (hba : Apart vb va) (hbp : Apart vb vp) (hap : Apart va vp)
  (hb : Below (w.heap.size + 1) (w.alloc (.cells #[.slice p l.length c] 32)) w1) : RwI l key w (w1.alloc (.cells #[vb, va, vp, .bool s.s] 109)) w1.heap.size p c vb va vp s.b s.a s.p s.s := by
 have hb1 : Below w1.heap.size w1 (w1.alloc (.cells #[vb, va, vp, .bool s.s] 109)) := (Below.refl _ _).alloc (Nat.le_refl _) _
 have hz := hb.size
 simp at hz
 refine ⟨(Below.heap_alloc _ _ _ (by omega)).trans ((hb.block _ (by omega)).trans (heap_alloc_new w _)), heap_alloc_new w1 _, own_below hob hb1, own_below hoa hb1, own_below hop hb1, hba, hbp, hap, fun e => ?_, fun e => ?_, fun e => ?_, ?_, by omega⟩
 ·have := own_lt hob _ e; omega
 ·have := own_lt hoa _ e; omega
 ·have := own_lt hop _ e; omega
 ·exact (((Below.refl _ _).alloc (Nat.le_refl _) _).trans (hb.mono (by omega))).trans (hb1.mono (by omega))
theorem RwI.row_ne {q : List Nat} {v : Value} (hrow : Row w p (l.flatMap Cl.cellsLn)) (hq : ∀ i ∈ q, i < l.length) (ho : OwnI W (w.heap.size + 1) v q) : 0 < q.length → ∀ a, p = some a → v.ownBlock ≠ some a.block := fun h a ha e => by
 obtain ⟨x, hx⟩ := List.exists_mem_of_length_pos h
 have h1 := hq x hx
 obtain ⟨b, o, hp, hb, _⟩ := hrow.at (by have := flat_len Cl.cellsLn 8 (fun _ => rfl) l; omega)
 rw [ha] at hp; injection hp with hp
 have h2 := own_ge ho _ e
 rw [hp] at h2
 have h3 : w.heap.size + 1 ≤ b := h2
 omega
def noneTo (l : List Cl) (sb sa sp : List Nat) (k : Nat) : Prop := ∀ j, j < k → fitsC l sb sa (sp.getD j 0) = false
theorem noneTo_succ {sb sa sp : List Nat} {k : Nat} (h : noneTo l sb sa sp k) (h1 : fitsC l sb sa (sp.getD k 0) = false) : noneTo l sb sa sp (k + 1) := fun j hj => by
 by_cases e : j = k
 ·subst e; exact h1
 ·exact h j (by omega)
theorem find_none {sb sa sp : List Nat} (h : noneTo l sb sa sp sp.length) : sp.find? (fitsC l sb sa) = none := by
 rw [List.find?_eq_none]
 intro x hx
 obtain ⟨j, hj, rfl⟩ := List.getElem_of_mem hx
 have := h j hj
 simpa [List.getD_eq_getElem?_getD, hj] using this
theorem find_at {sb sa sp : List Nat} {k : Nat} (hk : k < sp.length) (h : noneTo l sb sa sp k) (h1 : fitsC l sb sa (sp.getD k 0) = true) : sp.find? (fitsC l sb sa) = some (sp.getD k 0) := by
 have e : sp.getD k 0 = sp[k] := by simp [List.getD_eq_getElem?_getD, hk]
 rw [e] at h1 ⊢
 rw [List.find?_eq_some_iff_getElem]
 refine ⟨h1, k, hk, rfl, fun j hj => ?_⟩
 have := h j hj
 simpa [List.getD_eq_getElem?_getD, show j < sp.length by omega] using this
def RowRel (l : List Cl) (key : ByteArray) (w : World) (g : Nat) (p : Option Addr) (c : Nat) (vb va vp : Value) (sb sa sp : List Nat) (su : Bool) (i : Value) (wr : World) : Prop :=
 ∃ k : Nat, k ≤ sp.length ∧ i = .int .i64 k ∧ noneTo l sb sa sp k ∧ RwI l key w wr g p c vb va vp sb sa sp su
theorem RwI.bl_ne {q : List Nat} {v : Value} (ho : OwnI W (w.heap.size + 1) v q) : v.ownBlock ≠ some w.heap.size := fun e => by have := own_ge ho _ e; omega
theorem own_cast {w : World} {base : Nat} {e : TypeId} {size : Nat} {v : Value} {n m : Nat} {xs ys : List Value} (h : w.ownsRow base e size v n xs) (hn : n = m) (hx : xs = ys) : w.ownsRow base e size v m ys := by subst hn hx; exact h
theorem nat_ones {l : List Nat} : ∀ u ∈ l.map natVLn, u.oneCell' = true := fun u hu => by
 obtain ⟨i, _, rfl⟩ := List.mem_map.1 hu
 rfl
theorem RwI.appB {W1 w4 : World} {pa : Option Addr} {ca : Nat} {v' : Value} (h : RwI l key w W g p c vb (.slice pa sa.length ca) vp sb sa sp su) (hb : Below W.heap.size W W1) (hg : W1.grownBy w4 vb.ownBlock) (hs : Stayed W1 vb v') :
  w4.heap[g]? = some (.cells #[vb, .slice pa sa.length ca, vp, .bool su] 109 (0, 0)) ∧ Below w.heap.size w w4 ∧ w.heap.size + 1 ≤ w4.heap.size ∧ Row w4 pa (sa.map natVLn) ∧ v'.ownBlock ≠ some g := by
 have h1 := h.belowI hb
 have hz : w.heap.size < W1.heap.size := (Array.getElem?_eq_some_iff.1 h1.box).1
 have hz4 := hg.size
 exact ⟨(hg.block _ (Array.getElem?_eq_some_iff.1 h1.blk).1 (fun e => h1.gb e.symm)).trans h1.blk, h1.below.grown hg h1.below.size (fun k e => by have := own_ge h1.ob _ e; omega), by omega, own_slice_row (own_kept h1.oa hg h1.ba.symm), ne_stayed hs h1.gb (Array.getElem?_eq_some_iff.1 h1.blk).1⟩
end Go.Proofs.YtabkmdhkfbcldaaGreat
namespace Go.Proofs.YtabkmdhkfbcldaaGreat
open Go.RowKit
theorem ECall : Elem Tryz.prog 32 35 8 72 (.agg #[.int .i64 0, .int .i64 0, .string .empty, .int .i64 0, .int .i64 0, .int .i64 0, .int .i64 0, .int .i64 0]) := Elem.mk' Tryz.underlying32 (by kernel_rfl) rfl (by decide)
def onesTo (l : List Cl) (k : Nat) : Prop := ∀ j, j < k → oneB (cAt l j) = true
theorem onesTo_succ {l : List Cl} {k : Nat} (h : onesTo l k) (h1 : oneB (cAt l k) = true) : onesTo l (k + 1) := fun j hj => by
 by_cases e : j = k
 ·subst e; exact h1
 ·exact h j (by omega)
theorem ones_all {l : List Cl} (h : onesTo l l.length) : ∀ c ∈ l, OneC c := fun c hc => by
 obtain ⟨i, hi, rfl⟩ := mem_cAt hc
 exact oneB_iff.1 (h i hi)
theorem one_badLn {l : List Cl} {k : Nat} (hk : k < l.length) (h : oneB (cAt l k) = false) : ¬ HistOk l := fun H => by
 have := oneB_iff.2 (H.at k hk)
 rw [h] at this; cases this
def wsTo (l : List Cl) (j : Nat) : Prop := ∀ w : Nat, w < j → (ownW l w).Pairwise either
theorem wsTo_succ {l : List Cl} {k : Nat} (h : wsTo l k) (h1 : (ownW l k).Pairwise either) : wsTo l (k + 1) := fun j hj => by
 by_cases e : j = k
 ·subst e; exact h1
 ·exact h j (by omega)
theorem ws_all {l : List Cl} (ho : ∀ c ∈ l, OneC c) (h : wsTo l 64) : HistOk l := ⟨ho, (pairs_own ho).2 fun w h0 h1 => by
 obtain ⟨n, rfl⟩ : ∃ n : Nat, w = n := ⟨w.toNat, by omega⟩
 exact h n (by omega)⟩
theorem ownW_mem {l : List Cl} {w : Int} {c : Cl} (h : c ∈ ownW l w) : c ∈ l := (List.mem_filter.1 h).1
variable {l ys : List Cl} {j : Nat}
theorem own_near (ho : ∀ c ∈ l, OneC c) (hp : ys.Perm (ownW l j)) (hs : ys.Pairwise (fun a b => a.fr ≤ b.fr)) : nearOk ys ↔ (ownW l j).Pairwise either :=
 (near_pair ys (fun c hc => ho c (ownW_mem (hp.mem_iff.1 hc))) hs).trans (own_perm hp)
theorem near_bad (ho : ∀ c ∈ l, OneC c) (hj : j < 64) (hp : ys.Perm (ownW l j)) (hs : ys.Pairwise (fun a b => a.fr ≤ b.fr)) {i : Nat} (hi : i + 1 < ys.length) (hb : aheadC (cAt ys i) (cAt ys (i + 1)) = false) : ¬ HistOk l := fun H => by
 have := (own_near ho hp hs).2 ((pairs_own ho).1 H.two j (by omega) (by omega)) i hi
 rw [hb] at this; cases this
def nearTo (ys : List Cl) (k : Nat) : Prop := ∀ i, i < k → aheadC (cAt ys i) (cAt ys (i + 1)) = true
theorem nearTo_succ {k : Nat} (h : nearTo ys k) (h1 : aheadC (cAt ys k) (cAt ys (k + 1)) = true) : nearTo ys (k + 1) := fun j hj => by
 by_cases e : j = k
 ·subst e; exact h1
 ·exact h j (by omega)
theorem near_good (ho : ∀ c ∈ l, OneC c) (hp : ys.Perm (ownW l j)) (hs : ys.Pairwise (fun a b => a.fr ≤ b.fr)) (h : nearTo ys (ys.length - 1)) : (ownW l j).Pairwise either := (own_near ho hp hs).1 fun i hi => h i (by omega)
theorem take_snoc_c (k : Nat) (h : k < l.length) : l.take (k + 1) = l.take k ++ [cAt l k] := by
 rw [List.take_add_one, List.getElem?_eq_getElem h, cat_at l k h]; rfl
theorem K3 : KeyOk Tryz.prog 3 (Value.int .i64) := keyOk_int Tryz.underlying3
theorem zero22 (w : World) : (zeroValue 32).run Tryz.prog w = .ok (.slice none 0 0) w := by kernel_rfl
theorem step_wm {w : World} {ops : Array Oper} {o : Oper} {a : Act} {K' : Act → World → Prop} {Q : Exit → Act → World → Prop} {C : Prop} (hg : o.guard = none) (mo xo : Operand) (hop : o.op = Op.lookup 102 mo xo false)
  (b : Nat) (m : WM) (hm : a.eval mo = .map (some b)) (h : MapIs (Value.int .i64) id w b m) (x : Int) (hx : a.eval xo = .int .i64 x) (hK : K' (a.put o.dst (wmV m x)) w) : if Region.wanted o (yielded ops a.tmps) = true then Oper.wp Tryz.prog o a w K' Q else C :=
 step_maplook K3 Tryz.underlying102 hg mo xo false hop (.slice none 0 0) (zero22 w) b m hm h x hx (by simpa [wmV] using hK)
theorem wpList_wm {w : World} {ops : Array Oper} {rest : List Oper} {o : Oper} {a : Act} {Q : Exit → Act → World → Prop} (hg : o.guard = none) (mo xo : Operand) (hop : o.op = Op.lookup 102 mo xo false)
  (b : Nat) (m : WM) (hm : a.eval mo = .map (some b)) (h : MapIs (Value.int .i64) id w b m) (x : Int) (hx : a.eval xo = .int .i64 x) (hK : wpList Tryz.prog ops Q rest (a.put o.dst (wmV m x)) w) : wpList Tryz.prog ops Q (o :: rest) a w :=
 wpList_maplook K3 Tryz.underlying102 hg mo xo false hop (.slice none 0 0) (zero22 w) b m hm h x hx (by simpa [wmV] using hK)
theorem cl_ones (c : Cl) : ∀ u ∈ c.cellsLn, u.oneCell' = true := fun u hu => by
 simp [Cl.cellsLn] at hu
 rcases hu with rfl | rfl | rfl | rfl | rfl | rfl | rfl | rfl <;> rfl
theorem below_al {A B C : World} {o : Obj} (h1 : Below A.heap.size A B) (h2 : Below (B.alloc o).heap.size (B.alloc o) C) : Below A.heap.size A C := (h1.alloc h1.size o).trans (h2.mono (by have := h1.size; simp; omega))
theorem mapDrew {κ β : Type} {mk : κ → Value} {mv : β → Value} {w : World} {b : Nat} {m : List (κ × β)} (h : MapIs mk mv w b m) : MapIs mk mv w.drew b m := h
theorem WInv.ne_map {w : World} {base b : Nat} {m : WM} {q : List Cl} (h : WInv w base m q) (hb : b < base) (k : Int) : some b ≠ (wmV m k).ownBlock := fun e => by
 obtain ⟨ys, _, ho⟩ := h.own k
 have := own_ge ho _ e.symm; omega
theorem WInv.ne_new {w : World} {base b : Nat} {m : WM} {q : List Cl} (h : WInv w base m q) (hb : w.heap.size ≤ b) (k : Int) : some b ≠ (wmV m k).ownBlock := fun e => by
 obtain ⟨ys, _, ho⟩ := h.own k
 have := own_lt ho _ e.symm; omega
structure CkI (l : List Cl) (w : World) (k : Nat) (m : WM) (wr : World) : Prop where
 ones : onesTo l k
 map : MapIs (Value.int .i64) id wr w.heap.size m
 inv : WInv wr (w.heap.size + 1) m (l.take k)
 below : Below w.heap.size w wr
theorem CkI.start (l : List Cl) (w : World) : CkI l w 0 [] (w.alloc (.map #[] 0)) := ⟨fun j hj => by omega, MapIs.made _ _ w, by simpa using WInv.nil _ _, (Below.refl _ _).alloc (Nat.le_refl _) _⟩
end Go.Proofs.YtabkmdhkfbcldaaGreat
namespace Go.Proofs.YtabkmdhkfbcldaaGreat
open Go.RowKit
set_option maxHeartbeats 1000000 in
theorem mclo_any (l : List Cl) (p : Option Addr) (c bl bf : Nat) (first : Int) (r : List Nat) (q : Option Addr) (d : Nat) (w : World) (hl : l.length ≤ 1000000) (hrl : r.length ≤ 1000000) (hrow : Row w p (l.flatMap Cl.cellsLn)) (hr : Row w q (r.map natVLn)) (hlt : ∀ i ∈ r, i < l.length)
  (hb : w.cell? ⟨bl, 0, none⟩ = some (.slice p l.length c)) (hf : w.cell? ⟨bf, 0, none⟩ = some (.int .i64 first)) :
  Calls Tryz.prog 55 #[.slice q r.length d, .pointer (some ⟨bl, 0, none⟩), .pointer (some ⟨bf, 0, none⟩)] w fun e w' => e = .returned (.bool (headOk l first r)) ∧ ∃ n, w' = w.drewN n := by
 cases r with
 | nil =>
  have hd0 : decide ((0 : Int) < 0) = false := rfl
  go_enter Tryz.func55, Tryz.ntmps55
  go_wp2
  go_quiet (fail)
  go_wp2
  go_ret
  exact ⟨rfl, _, rfl⟩
 | cons h t =>
  obtain ⟨b, o, rfl, hbw, -⟩ := hrow.at (by have := flat_len Cl.cellsLn 8 (fun _ => rfl) l; have := hlt h (by simp); omega)
  obtain ⟨b2, o2, rfl, hb2, -⟩ := hr.at (by simp)
  have hh := hlt h (by simp)
  have c0 := nat_at hr 0 (by simp)
  obtain ⟨d0, d1, d2, d3, d4, d5, d6, d7⟩ := cl_cat hrow h hh
  simp only [List.getD_cons_zero, Nat.add_zero] at c0
  have hn : 0 < (h :: t).length := by simp
  have hv : Hid (headOk l first (h :: t) = decide ((cAt l h).fr < first)) := rfl
  have hn0 : (0 : Int) < ((h :: t).length : Int) := by omega
  have HN := hid hn
  clear hr hrow hlt
  generalize (h :: t).length = n at *
  generalize (cAt l h).fr = fr at *
  have h1 : decide ((0 : Int) < (n : Int)) = true := by simpa using hn0
  have hq1 : decide ((h : Int) < 0) = false := decide_eq_false (by omega)
  have hq2 : decide ((l.length : Int) ≤ (h : Int)) = false := decide_eq_false (by omega)
  have hq3 : decide (l.length ≤ h) = false := decide_eq_false (by omega)
  have hn3 : decide (n ≤ 0) = false := decide_eq_false (by omega)
  go_enter Tryz.func55, Tryz.ntmps55
  go_wp2
  go_quiet (fail)
  go_wp2
  go_ret
  exact ⟨ret_bool hv.out.symm, _, rfl⟩
structure RowsAt (OK : Option Addr → Prop) (w : World) (vals : List Value) (rows : List (List Nat)) : Prop where
 len : vals.length = rows.length
 each : ∀ j (h : j < rows.length), ∃ p c, vals[j]? = some (.slice p rows[j].length c) ∧ rows[j].length ≤ c ∧ (p = none → c = 0) ∧ Row w p (rows[j].map natVLn) ∧ OK p
theorem RowsAt.below {OK : Option Addr → Prop} {w w' : World} {vals : List Value} {rows : List (List Nat)} (h : RowsAt OK w vals rows) (hb : Below w.heap.size w w') : RowsAt OK w' vals rows :=
 ⟨h.len, fun j hj => by obtain ⟨p, c, h1, h2, h3, h4, h5⟩ := h.each j hj; exact ⟨p, c, h1, h2, h3, h4.below hb, h5⟩⟩
theorem val_at {w : World} {b o : Nat} {vals : List Value} (h : Row w (some ⟨b, o, none⟩) vals) (k : Nat) (v : Value) (hv : vals[k]? = some v) : w.cell? ⟨b, o + k, none⟩ = some v := by
 obtain ⟨hk, e⟩ := List.getElem?_eq_some_iff.1 hv
 rw [h.cell k hk, e]
theorem belowN {B : Nat} {a w : World} (h : Below B a w) (n : Nat) : Below B a (w.drewN n) := ⟨h.os, h.tape, h.output, h.size, h.block⟩
def idxV (o : Option Nat) : Int := match o with | some k => k | none => -1
theorem findIdx_none {rows : List (List Nat)} {f : List Nat → Bool} (h : ∀ j, j < rows.length → f (rows.getD j []) = false) : rows.findIdx? f = none := by
 rw [List.findIdx?_eq_none_iff]
 intro r hr
 obtain ⟨j, hj, rfl⟩ := List.getElem_of_mem hr
 have := h j hj
 simpa [List.getD_eq_getElem?_getD, hj] using this
theorem findIdx_at {rows : List (List Nat)} {f : List Nat → Bool} {k : Nat} (hk : k < rows.length) (h : ∀ j, j < k → f (rows.getD j []) = false) (h1 : f (rows.getD k []) = true) : rows.findIdx? f = some k := by
 rw [List.findIdx?_eq_some_iff_getElem]
 refine ⟨hk, by simpa [List.getD_eq_getElem?_getD, hk] using h1, fun j hj => ?_⟩
 have := h j hj
 simpa [List.getD_eq_getElem?_getD, show j < rows.length by omega] using this
set_option maxHeartbeats 2000000 in
theorem midx_any (OK : Option Addr → Prop) (l : List Cl) (p : Option Addr) (c bl bf : Nat) (first : Int) (rows : List (List Nat)) (vals : List Value) (q : Option Addr) (d : Nat) (w : World) (hl : l.length ≤ 1000000) (hn : rows.length ≤ 1000000) (hrl : ∀ r ∈ rows, r.length ≤ 1000000) (hrow : Row w p (l.flatMap Cl.cellsLn)) (hlt : ∀ r ∈ rows, ∀ i ∈ r, i < l.length)
  (hout : Row w q vals) (hin : RowsAt OK w vals rows) (hb : w.cell? ⟨bl, 0, none⟩ = some (.slice p l.length c)) (hf : w.cell? ⟨bf, 0, none⟩ = some (.int .i64 first)) (hbl : bl < w.heap.size) (hbf : bf < w.heap.size) :
  Calls Tryz.prog 54 #[.slice q rows.length d, .func (.func 55) #[] #[.pointer (some ⟨bl, 0, none⟩), .pointer (some ⟨bf, 0, none⟩)]] w fun e w' => e = .returned (.int .i64 (idxV (rows.findIdx? (headOk l first)))) ∧ Below w.heap.size w w' := by
 have HB := hid hb
 have HF := hid hf
 clear hb hf
 go_enter Tryz.func54, Tryz.ntmps54
 go_wp2
 go_loopw [8] (fun i wr => ∃ k : Nat, k ≤ rows.length ∧ i = .int .i64 k ∧ (∀ j, j < k → headOk l first (rows.getD j []) = false) ∧ Below w.heap.size w wr) (fun i _ => rows.length - (intOf i).toNat)
 case atStart => exact ⟨0, Nat.zero_le _, rfl, fun j hj => by omega, Below.refl _ _⟩
 case round =>
  obtain ⟨k, hk, rfl, hok, hbw⟩ := hrel
  have HOK := hid hok
  have HBW := hid hbw
  clear hok hbw
  by_cases hlt2 : k < rows.length
  ·obtain ⟨pj, cj, hv, hcj, _, hrj, _⟩ := hin.each k hlt2
   obtain ⟨bb, off, rfl, hbs, -⟩ := hout.at (by have := hin.len; omega)
   have cv := val_at (hout.below HBW.out) k _ hv
   have hmem : rows[k] ∈ rows := List.getElem_mem hlt2
   have HCL := hid (mclo_any l p c bl bf first rows[k] pj cj wr hl (hrl _ hmem) (hrow.below HBW.out) (hrj.below HBW.out) (hlt _ hmem) ((HBW.out.cell (p := ⟨bl, 0, none⟩) hbl).trans HB.out) ((HBW.out.cell (p := ⟨bf, 0, none⟩) hbf).trans HF.out))
   have HK := hid (fun h => findIdx_at (f := headOk l first) hlt2 HOK.out h)
   have HNX : Hid (headOk l first (rows.getD k []) = false → ∀ j, j < k + 1 → headOk l first (rows.getD j []) = false) := fun h j hj => by
    by_cases e : j = k
    ·subst e; exact h
    ·exact HOK.out j (by omega)
   have hgd : rows.getD k [] = rows[k] := by simp [List.getD_eq_getElem?_getD, hlt2]
   rw [hgd] at HK HNX
   clear hv hrj hgd
   generalize rows[k] = r at cv HCL HK HNX hcj hmem
   cases hh : headOk l first r with
   | true =>
    have HK2 := hid (HK.out hh)
    rw [hh] at HCL
    clear hh hmem
    go_wp2_with (go_at_call 55; (with_reducible refine HCL.out.mono ?_); rintro e w1 ⟨rfl, nq, rfl⟩)
    go_ret
    exact ⟨ret_int (by rw [HK2.out]; rfl), belowN HBW.out _⟩
   | false =>
    have HK2 := hid (HNX.out hh)
    rw [hh] at HCL
    clear hh hmem
    go_wp2_with (go_at_call 55; (with_reducible refine HCL.out.mono ?_); rintro e w1 ⟨rfl, nq, rfl⟩)
    exact ⟨⟨k + 1, by omega, by go_num, HK2.out, belowN HBW.out _⟩, by simp [intOf]; omega⟩
  ·have hke : k = rows.length := by omega
   subst hke
   have HV := hid (findIdx_none (f := headOk l first) HOK.out)
   go_wp2
   go_ret
   exact ⟨ret_int (by rw [HV.out]; rfl), HBW.out⟩
end Go.Proofs.YtabkmdhkfbcldaaGreat
namespace Go.Proofs.YtabkmdhkfbcldaaGreat
open Go.RowKit
variable {l : List Cl} {rs : List (List Nat)}
theorem merge_step {k hd : Nat} {tl : List Nat} (hk : k < rs.length) (h : rs[k] = hd :: tl) (hp : pickR l rs = some k) :
  mergeN l rs.flatten.length rs = hd :: mergeN l (rs.set k tl).flatten.length (rs.set k tl) ∧ rs.flatten.length = (rs.set k tl).flatten.length + 1 := by
 have h1 := (flatten_set hk h).length_eq
 simp only [List.length_cons] at h1
 refine ⟨?_, h1⟩
 rw [h1]
 conv => lhs; unfold mergeN
 rw [hp]
 have : rs.getD k [] = hd :: tl := by simp [List.getD_eq_getElem?_getD, hk, h]
 simp only [this]
theorem merge_zero (h : rs.flatten.length = 0) : mergeN l rs.flatten.length rs = [] := by rw [h]; rfl
theorem EOut : Elem Tryz.prog 80 40 1 24 (.slice none 0 0) := Elem.mk' Tryz.underlying80 (by kernel_rfl) rfl (by decide)
def InOk (n : Nat) (vo : Value) (q : Option Addr) : Prop := ∀ a, q = some a → a.block < n ∧ vo.ownBlock ≠ some a.block
theorem grown_setLn {w : World} (a : Addr) (v : Value) : w.grownBy (w.setCell a v) (some a.block) := ⟨rfl, rfl, rfl, by simp, fun k _ hk => Below.heap_setCell _ _ _ _ (fun e => hk (by rw [e]))⟩
theorem grown_more {w W W' : World} {row row2 : Option Nat} (h : w.grownBy W row) (h2 : W.grownBy W' row2) (h3 : ∀ k, row2 = some k → some k = row ∨ w.heap.size ≤ k) : w.grownBy W' row :=
 ⟨h2.os.trans h.os, h2.tape.trans h.tape, h2.output.trans h.output, Nat.le_trans h.size h2.size, fun k hk hne => (h2.block k (Nat.lt_of_lt_of_le hk h.size) (fun e => by
  rcases h3 k e.symm with e2 | e2
  ·exact hne e2
  ·omega)).trans (h.block k hk hne)⟩
theorem grown_below {w W W' : World} {row : Option Nat} (h : w.grownBy W row) (h2 : Below W.heap.size W W') : w.grownBy W' row :=
 ⟨h2.os.trans h.os, h2.tape.trans h.tape, h2.output.trans h.output, Nat.le_trans h.size h2.size, fun k hk hne => (h2.block k (Nat.lt_of_lt_of_le hk h.size)).trans (h.block k hk hne)⟩
structure MgI (l : List Cl) (base : Nat) (w : World) (p : Option Addr) (c : Nat) (vo : Value) (M : List Nat) (N : Nat) (v : Value) (o : List Nat) (vals : List Value) (rs : List (List Nat)) (W : World) : Prop where
 box : W.heap[w.heap.size]? = some (.cells #[.slice p l.length c] 32 (0, 0))
 out : W.ownsRow base 40 1 vo rs.length vals
 ins : RowsAt (InOk w.heap.size vo) W vals rs
 vlt : ∀ g, vo.ownBlock = some g → g < w.heap.size
 ord : OwnI W (w.heap.size + 1) v o
 mer : o ++ mergeN l rs.flatten.length rs = M
 good : ∀ r ∈ rs, RowG l r
 lt : ∀ i ∈ rs.flatten, i < l.length
 len : o.length + rs.flatten.length = N
 below : Below base w W
 gr : w.grownBy W vo.ownBlock
variable {base : Nat} {w W W' : World} {p : Option Addr} {c : Nat} {vo v : Value} {M o : List Nat} {N : Nat} {vals : List Value}
theorem RowsAt.grown {n : Nat} {row : Option Nat} {rows : List (List Nat)} (h : RowsAt (InOk n vo) W vals rows) (hg : W.grownBy W' row) (hr : ∀ g, row = some g → vo.ownBlock = some g ∨ n ≤ g) : RowsAt (InOk n vo) W' vals rows :=
 ⟨h.len, fun j hj => by
  obtain ⟨p, c, h1, h2, h3, h4, h5⟩ := h.each j hj
  refine ⟨p, c, h1, h2, h3, h4.kept hg (fun a ha e => ?_), h5⟩
  obtain ⟨g1, g2⟩ := h5 a ha
  rcases hr _ e.symm with e2 | e2
  ·exact g2 e2
  ·omega⟩
theorem MgI.below1 (h : MgI l base w p c vo M N v o vals rs W) (hB : base ≤ w.heap.size) (hb : Below W.heap.size W W') : MgI l base w p c vo M N v o vals rs W' :=
 ⟨(hb.block _ (Array.getElem?_eq_some_iff.1 h.box).1).trans h.box, own_below h.out hb, h.ins.below hb, h.vlt, own_below h.ord hb, h.mer, h.good, h.lt, h.len, h.below.trans (hb.mono (Nat.le_trans hB h.below.size)), grown_below h.gr hb⟩
theorem MgI.app (h : MgI l base w p c vo M N v o vals rs W) {k hd : Nat} {tl : List Nat} {v' : Value} {W1 W2 : World} {pk : Option Addr} {ck g co : Nat} (hvo : vo = .slice (some ⟨g, 0, none⟩) rs.length co) (hB : base ≤ w.heap.size) (hb : Below W.heap.size W W1) (hk : k < rs.length) (hr : rs[k] = hd :: tl) (hp : pickR l rs = some k)
  (hv : vals[k]? = some (.slice pk rs[k].length ck)) (hg : W1.grownBy W2 v.ownBlock) (ho : W2.ownsRow (w.heap.size + 1) 3 1 v' (o.length + 1) (o.map natVLn ++ [natVLn hd])) (vt : Value)
  (hvt : ∃ pt ct, vt = .slice pt tl.length ct ∧ tl.length ≤ ct ∧ (pt = none → ct = 0) ∧ (∀ W3, Row W3 pk ((hd :: tl).map natVLn) → Row W3 pt (tl.map natVLn)) ∧ (∀ a, pt = some a → ∃ a', pk = some a' ∧ a.block = a'.block)) :
  MgI l base w p c vo M N v' (o ++ [hd]) (vals.set k vt) (rs.set k tl) (W2.setCell ⟨g, k, none⟩ vt) := by
 have h1 := h.below1 hB hb
 obtain ⟨m1, m2⟩ := merge_step hk hr hp
 have hperm := flatten_set hk hr
 have hvb : vo.ownBlock = some g := by rw [hvo]; rfl
 have hglt := h.vlt g hvb
 have hord : ∀ x, v.ownBlock = some x → w.heap.size + 1 ≤ x := fun x e => own_ge h1.ord _ e
 have hne : vo.ownBlock ≠ v.ownBlock := fun e => by
  rw [hvb] at e; have := hord g e.symm; omega
 have hout2 : W2.ownsRow base 40 1 vo rs.length vals := h1.out.kept hg (.inr hne)
 have hins2 : RowsAt (InOk w.heap.size vo) W2 vals rs := h1.ins.grown hg (fun x e => .inr (by have := hord x e; omega))
 have hbg : base ≤ g := own_ge h1.out _ hvb
 refine ⟨?_, ?_, ?_, h.vlt, ?_, ?_, ?_, ?_, ?_, ?_, ?_⟩
 ·exact (Below.heap_setCell _ _ _ _ (by simp; omega)).trans ((hg.block _ (Array.getElem?_eq_some_iff.1 h1.box).1 (fun e => by have := hord _ e.symm; omega)).trans h1.box)
 ·subst hvo
  have := own_set hout2 k vt
  rwa [List.length_set]
 ·refine ⟨by simp [hins2.len], fun j hj => ?_⟩
  have hj' : j < rs.length := by simpa using hj
  by_cases e : j = k
  ·subst e
   obtain ⟨pt, ct, rfl, t1, t2, t3, t4⟩ := hvt
   obtain ⟨p0, c0, e1, _, _, e4, e5⟩ := hins2.each j hk
   rw [hv] at e1
   injection e1 with e1; injection e1 with e1 _ _
   subst e1
   have hget : (rs.set j tl)[j] = tl := by simp
   rw [hget]
   refine ⟨pt, ct, by rw [List.getElem?_set, if_pos rfl, if_pos (by rw [hins2.len]; exact hk)], t1, t2, Row.set_other (t3 W2 (by rw [← hr]; exact e4)) _ _ (fun a ha e => ?_), fun a ha => ?_⟩
   ·obtain ⟨a', ha', eb⟩ := t4 a ha
    exact (e5 a' ha').2 (by rw [hvb, ← eb, e])
   ·obtain ⟨a', ha', eb⟩ := t4 a ha
    rw [eb]; exact e5 a' ha'
  ·obtain ⟨p0, c0, e1, e2, e3, e4, e5⟩ := hins2.each j hj'
   have hget : (rs.set k tl)[j] = rs[j] := List.getElem_set_ne (Ne.symm e) _
   rw [hget]
   refine ⟨p0, c0, by rw [List.getElem?_set, if_neg (Ne.symm e)]; exact e1, e2, e3, Row.set_other e4 _ _ (fun a ha e => (e5 a ha).2 (by rw [hvb, e])), e5⟩
 ·exact own_cast (own_setO ho _ _ (fun x e => by have := own_ge ho x e; simp; omega)) (by simp) (by simp)
 ·rw [List.append_assoc]
  show o ++ (hd :: mergeN l _ _) = M
  rw [← m1]; exact h.mer
 ·intro r hr'
  rcases List.mem_or_eq_of_mem_set hr' with h2 | h2
  ·exact h.good r h2
  ·rw [h2]; have := h.good _ (List.getElem_mem hk); rw [hr] at this; exact this.tail
 ·exact fun i hi => h.lt i (hperm.mem_iff.2 (List.mem_cons_of_mem _ hi))
 ·have := h.len; simp only [List.length_append, List.length_cons, List.length_nil]; omega
 ·exact (h1.below.grown hg (Nat.le_trans hB h1.below.size) (fun x e => by have := hord x e; omega)).setCell hbg _
 ·refine grown_more (grown_more h1.gr hg (fun x e => .inr (by have := hord x e; omega))) (grown_setLn _ _) (fun x e => .inl ?_)
  cases e
  exact hvb.symm
theorem tail_slice {pk : Option Addr} {hd ck : Nat} {tl : List Nat} (hc : (hd :: tl).length ≤ ck) (hn : pk = none → ck = 0) : ∃ pt ct, (Value.slice (if ck = 1 then pk else pk.map (fun x => x.add 1)) tl.length (ck - 1)) = .slice pt tl.length ct ∧ tl.length ≤ ct ∧ (pt = none → ct = 0) ∧ (∀ W3, Row W3 pk ((hd :: tl).map natVLn) → Row W3 pt (tl.map natVLn)) ∧ (∀ a, pt = some a → ∃ a', pk = some a' ∧ a.block = a'.block) := by
 simp only [List.length_cons] at hc
 refine ⟨_, _, rfl, by omega, fun e => ?_, fun W3 h => ?_, fun a ha => ?_⟩
 ·by_cases h1 : ck = 1
  ·omega
  ·rw [if_neg h1] at e
   cases pk with
   | none => have := hn rfl; omega
   | some a => cases e
 ·by_cases h1 : ck = 1
  ·have : tl = [] := List.eq_nil_of_length_eq_zero (by omega)
   subst this
   exact Row.nil _ _
  ·rw [if_neg h1]
   intro hne
   obtain ⟨b, f, rfl, hcell⟩ := h (by simp)
   refine ⟨b, f + 1, rfl, fun i hi => ?_⟩
   have := hcell (i + 1) (by simp at hi ⊢; omega)
   rw [show f + 1 + i = f + (i + 1) from by omega, this]
   simp
 ·by_cases h1 : ck = 1
  ·rw [if_pos h1] at ha; exact ⟨a, ha, rfl⟩
  ·rw [if_neg h1] at ha
   cases pk with
   | none => cases ha
   | some a' => injection ha with ha; subst ha; exact ⟨a', rfl, rfl⟩
end Go.Proofs.YtabkmdhkfbcldaaGreat
namespace Go.Proofs.YtabkmdhkfbcldaaGreat
open Go.RowKit
def lenV : Value → Nat
 | .slice _ n _ => n
 | _ => 0
theorem first_snoc (l : List Cl) (a : List Nat) (i : Nat) : firstOf l (a ++ [i]) = endOf l (firstOf l a) i := by unfold firstOf; rw [List.foldl_append]; rfl
theorem flat_take {rs : List (List Nat)} {j : Nat} (hj : j < rs.length) : (rs.take (j + 1)).flatten = (rs.take j).flatten ++ rs[j] := by
 rw [List.take_add_one, List.getElem?_eq_getElem hj]
 show (rs.take j ++ [rs[j]]).flatten = _
 rw [List.flatten_append, List.flatten_cons, List.flatten_nil, List.append_nil]
theorem flat_take_le (rs : List (List Nat)) (j : Nat) : (rs.take j).flatten.length ≤ rs.flatten.length := by
 conv => rhs; rw [← List.take_append_drop j rs]
 rw [List.flatten_append, List.length_append]; omega
theorem flat_mem_len {rs : List (List Nat)} {r : List Nat} (h : r ∈ rs) : r.length ≤ rs.flatten.length := by
 obtain ⟨j, hj, rfl⟩ := List.getElem_of_mem h
 have h1 := flat_take_le rs (j + 1)
 rw [flat_take hj, List.length_append] at h1
 omega
def MergeTell (l : List Cl) (base : Nat) (w : World) (vo : Value) (rs : List (List Nat)) (e : Ending) (w' : World) : Prop := ∃ v, e = .returned v ∧ OwnI w' base v (mergeN l rs.flatten.length rs) ∧ Below base w w' ∧ w.grownBy w' vo.ownBlock
def MgRel (l : List Cl) (base : Nat) (w : World) (p : Option Addr) (c : Nat) (vo : Value) (M : List Nat) (N n : Nat) (v : Value) (W : World) : Prop := ∃ o vals rs, rs.length = n ∧ MgI l base w p c vo M N v o vals rs W
def cntTo (rs : List (List Nat)) (j : Nat) : Nat := (rs.take j).flatten.length
def MgRel2 (l : List Cl) (W0 : World) (rs : List (List Nat)) (lf i : Value) (wr : World) : Prop :=
 ∃ j : Nat, j ≤ rs.length ∧ i = .int .i64 j ∧ lf = .int .i64 (cntTo rs j : Nat) ∧ wr.heap[W0.heap.size]? = some (.cells #[.int .i64 (firstOf l (rs.take j).flatten)] 3 (0, 0)) ∧ Below W0.heap.size W0 wr
def MgRel3 (l : List Cl) (W0 : World) (a r : List Nat) (i : Value) (wr : World) : Prop :=
 ∃ k : Nat, k ≤ r.length ∧ i = .int .i64 k ∧ wr.heap[W0.heap.size]? = some (.cells #[.int .i64 (firstOf l (a ++ r.take k))] 3 (0, 0)) ∧ Below W0.heap.size W0 wr
theorem mg_start {l : List Cl} {base : Nat} {w : World} {p : Option Addr} {c : Nat} {vo : Value} {vals : List Value} {rs : List (List Nat)} (hB : base ≤ w.heap.size) (hout : w.ownsRow base 40 1 vo rs.length vals) (hin : RowsAt (InOk w.heap.size vo) w vals rs) (hg : ∀ r ∈ rs, RowG l r) (hlt : ∀ i ∈ rs.flatten, i < l.length) :
  MgI l base w p c vo (mergeN l rs.flatten.length rs) rs.flatten.length (.slice none 0 0) [] vals rs (w.alloc (.cells #[.slice p l.length c] 32)) :=
 ⟨heap_alloc_new w _, hout.alloc _, hin.below ((Below.refl _ _).alloc (Nat.le_refl _) _), own_lt hout, ⟨rfl, .inl ⟨rfl, rfl⟩⟩, rfl, hg, hlt, by simp, (Below.refl _ _).alloc hB _, grown_below (World.grownBy.refl _ _) ((Below.refl _ _).alloc (Nat.le_refl _) _)⟩
theorem MgI.out2 {l : List Cl} {base : Nat} {w W W1 W2 : World} {p : Option Addr} {c : Nat} {vo v : Value} {M o : List Nat} {N : Nat} {vals : List Value} {rs : List (List Nat)} (h : MgI l base w p c vo M N v o vals rs W) (hB : base ≤ w.heap.size) (hb : Below W.heap.size W W1) (hg : W1.grownBy W2 v.ownBlock) : W2.ownsRow base 40 1 vo rs.length vals := by
 have h1 := h.below1 hB hb
 refine h1.out.kept hg ?_
 cases hv : vo.ownBlock with
 | none => exact .inl rfl
 | some x => exact .inr (fun e => by have := own_ge h1.ord _ e.symm; have := h.vlt x hv; omega)
set_option maxRecDepth 20000 in
set_option maxHeartbeats 4000000 in
theorem merge_any (l : List Cl) (p : Option Addr) (c base : Nat) (vo : Value) (vals : List Value) (rs : List (List Nat)) (w : World) (hl : l.length ≤ 1000000) (hrs : rs.length ≤ 1000000) (hfl : rs.flatten.length ≤ 1000000) (hB : base ≤ w.heap.size) (hrow : ∀ w', Below base w w' → Row w' p (l.flatMap Cl.cellsLn))
  (hout : w.ownsRow base 40 1 vo rs.length vals) (hin : RowsAt (InOk w.heap.size vo) w vals rs) (hg : ∀ r ∈ rs, RowG l r) (hlt : ∀ i ∈ rs.flatten, i < l.length) (ho : ∀ i, i < l.length → OneC (cAt l i)) (hm : ∀ i, i < l.length → (cAt l i).to ≤ maxI) :
  Calls Tryz.prog 33 #[.slice p l.length c, vo] w (MergeTell l base w vo rs) := by
 have H0 := hid (mg_start (p := p) (c := c) hB hout hin hg hlt)
 obtain ⟨M, hM⟩ : ∃ M, M = mergeN l rs.flatten.length rs := ⟨_, rfl⟩
 obtain ⟨N, hN⟩ : ∃ N, N = rs.flatten.length := ⟨_, rfl⟩
 obtain ⟨n, hn⟩ : ∃ n, n = rs.length := ⟨_, rfl⟩
 have HT : Hid (∀ e w', (∃ v, e = .returned v ∧ OwnI w' base v M ∧ Below base w w' ∧ w.grownBy w' vo.ownBlock) → MergeTell l base w vo rs e w') := fun e w' h => by rw [hM] at h; exact h
 rw [← hM, ← hN] at H0
 have HR := hid hrow
 have HO := hid ho
 have HM := hid hm
 obtain ⟨po, co, rfl, -⟩ := own_shape hout
 have HN0 := hid hn
 rw [← hN] at hfl
 rw [← hn] at hrs
 clear hM hN hrow ho hm hout hin hg hlt
 rw [← hn] at H0 HT ⊢
 clear hn
 go_enter Tryz.func33, Tryz.ntmps33
 go_wp2
 go_loopw [5] (MgRel l base w p c (.slice po n co) M N n) (fun v _ => N - lenV v)
 case atStart => exact ⟨[], vals, rs, HN0.out.symm, H0.out⟩
 case round =>
  obtain ⟨o, vals2, rs2, hlen, hmg⟩ := hrel
  obtain ⟨W0, rfl⟩ : ∃ W0, W0 = wr := ⟨_, rfl⟩
  have HG := hid hmg
  obtain ⟨pv, cv, rfl, -⟩ := own_shape hmg.ord
  have HLN := hid hlen
  clear hmg hlen H0 HN0
  have hnl : rs2.flatten.length ≤ 1000000 := by have := HG.out.len; omega
  have hwz : w.heap.size < W0.heap.size := (Array.getElem?_eq_some_iff.1 HG.out.box).1
  have hr2l : rs2.length ≤ 1000000 := by have := HLN.out; omega
  go_wp2
  go_loopw [7, 15] (MgRel2 l W0 rs2) (fun _ i _ => n - (intOf i).toNat)
  case atStart => exact ⟨0, Nat.zero_le _, rfl, rfl, heap_alloc_new W0 _, (Below.refl _ _).alloc (Nat.le_refl _) _⟩
  case round =>
   obtain ⟨j, hj, rfl, rfl, hf, hb⟩ := hrel
   have HF := hid hf
   have HB := hid hb
   clear hf hb
   by_cases hlt : j < n
   ·have hjr : j < rs2.length := by rw [HLN.out]; exact hlt
    have HG2 := hid (HG.out.below1 hB HB.out)
    have hro := own_slice_row HG2.out.out
    obtain ⟨bo, oo, rfl, hbo, -⟩ := hro.at (by have := HG2.out.ins.len; omega)
    obtain ⟨pj, cj, hv, hcj, hnj, hrj, hij⟩ := HG.out.ins.each j hjr
    have cv := val_at hro j _ hv
    have hmem : rs2[j] ∈ rs2 := List.getElem_mem hjr
    have hrl := flat_mem_len hmem
    have HFT := hid (flat_take hjr)
    have htl := flat_take_le rs2 (j + 1)
    rw [flat_take hjr, List.length_append] at htl
    have htl2 : cntTo rs2 j + rs2[j].length ≤ 1000000 := by unfold cntTo; omega
    have HLT : Hid (∀ i ∈ rs2[j], i < l.length) := fun i hi => HG2.out.lt i (List.mem_flatten.2 ⟨_, hmem, hi⟩)
    have HRJ := hid hrj
    have HIJ := hid hij
    clear hro hv hrj hij hmem htl
    generalize rs2[j] = r at *
    have hjn : decide ((j : Int) < 0) = false := decide_eq_false (by omega)
    go_wp2
    obtain ⟨a, ha⟩ : ∃ a, a = (rs2.take j).flatten := ⟨_, rfl⟩
    have HA := hid ha
    have HCN : Hid (cntTo rs2 j = a.length) := by rw [ha]; rfl
    rw [← ha] at HF HFT
    clear ha
    go_loopw [25] (MgRel3 l W0 a r) (fun i _ => r.length - (intOf i).toNat)
    case atStart => exact ⟨0, Nat.zero_le _, rfl, by simpa using HF.out, HB.out⟩
    case round =>
     obtain ⟨k, hk, rfl, hf, hb⟩ := hrel
     have HF := hid hf
     have HB3 := hid hb
     clear hf hb
     by_cases hlt3 : k < r.length
     ·have hrr := HRJ.out.below HB3.out
      obtain ⟨bk, ok, rfl, hbk, -⟩ := hrr.at (by simpa using (show 0 < r.length by omega))
      have cx := nat_at hrr k hlt3
      have hxl := getD_lt HLT.out hlt3
      have HTK : Hid (r.take (k + 1) = r.take k ++ [r.getD k 0]) := by rw [Hid, List.take_add_one, List.getElem?_eq_getElem hlt3]; simp [List.getD_eq_getElem?_getD, hlt3]
      generalize r.getD k 0 = x at cx hxl HTK
      have HG3 := hid (HG.out.below1 hB HB3.out)
      obtain ⟨bl, ol, rfl, hbl, -⟩ := (HR.out wr HG3.out.below).at (by have := flat_len Cl.cellsLn 8 (fun _ => rfl) l; omega)
      have d5 := (cl_cat (HR.out wr HG3.out.below) x hxl).2.2.2.2.2.1
      have y0 := cell_of_row _ _ 0 _ _ _ HG3.out.box
      have f0 := cell_of_row _ _ 0 _ _ _ HF.out
      have f1 : wr.frozen? ⟨W0.heap.size, 0, none⟩ = false := frozen_of_row _ _ _ _ _ HF.out
      simp only [List.getElem?_toArray, List.getElem?_cons_zero] at y0 f0
      have HE : Hid (firstOf l (a ++ r.take (k + 1)) = endOf l (firstOf l (a ++ r.take k)) x) := by rw [Hid, HTK.out, ← List.append_assoc, first_snoc]
      have hq1 : decide ((x : Int) < 0) = false := decide_eq_false (by omega)
      have hq2 : decide ((l.length : Int) ≤ (x : Int)) = false := decide_eq_false (by omega)
      have hq3 : decide (l.length ≤ x) = false := decide_eq_false (by omega)
      have hFb : Hid (∀ m, (wr.setCell ⟨W0.heap.size, 0, none⟩ (.int .i64 m)).heap[W0.heap.size]? = some (.cells #[.int .i64 m] 3 (0, 0))) := fun m => heap_setCell_same _ _ 0 _ _ _ HF.out
      clear hrr
      unfold endOf at HE
      generalize firstOf l (a ++ r.take k) = m at f0 HE HF
      generalize hto : (cAt l x).to = te at d5 HE
      clear hto
      by_cases ht : te = -1
      ·subst ht
       have HE2 : Hid (firstOf l (a ++ r.take (k + 1)) = m) := by rw [Hid, HE.out]; simp
       go_wp2
       exact ⟨⟨k + 1, by omega, by go_num, by rw [HE2.out]; exact HF.out, HB3.out⟩, by simp [intOf]; omega⟩
      ·have ht1 : (te == -1) = false := by simpa using ht
       have ht2 : (te != -1) = true := by simpa using ht
       have HE2 : Hid (firstOf l (a ++ r.take (k + 1)) = min m te) := by rw [Hid, HE.out, if_pos ht]
       clear HE
       go_wp2
       go_region
       go_wp2
       exact ⟨⟨k + 1, by omega, by go_num, by rw [HE2.out]; exact hFb.out _, (HB3.out.setCell (Nat.le_refl _) _).drew⟩, by simp [intOf]; omega⟩
     ·have hke : k = r.length := by omega
      subst hke
      have hff := HF.out
      rw [List.take_of_length_le (Nat.le_refl _), ← HFT.out] at hff
      have HFF := hid hff
      have HLL : Hid (((cntTo rs2 (j + 1) : Nat) : Int) = (cntTo rs2 j : Int) + (r.length : Int)) := by unfold Hid; rw [HCN.out]; unfold cntTo; rw [HFT.out, List.length_append]; simp
      clear hff
      go_wp2
      exact ⟨⟨j + 1, by omega, by go_num, by rw [HLL.out], HFF.out, HB3.out⟩, by simp [intOf]; omega⟩
   ·have hje : j = n := by have := HLN.out; omega
    subst hje
    have hff := HF.out
    have hta : rs2.take j = rs2 := List.take_of_length_le (by have := HLN.out; omega)
    have HCN : Hid (cntTo rs2 j = rs2.flatten.length) := by unfold Hid cntTo; rw [hta]
    rw [hta] at hff
    have HFF := hid hff
    have HG3 := hid (HG.out.below1 hB HB.out)
    clear hff HF hta
    by_cases hz : rs2.flatten.length = 0
    ·have hcz : cntTo rs2 j = 0 := HCN.out.trans hz
     rw [hcz]
     have HZ := hid hz
     clear hz hcz
     go_wp2
     go_ret
     refine HT.out _ _ ⟨_, rfl, ?_, HG3.out.below, HG3.out.gr⟩
     have hmm := HG3.out.mer
     rw [merge_zero HZ.out, List.append_nil] at hmm
     rw [← hmm]
     exact own_lower HG3.out.ord (by omega)
    ·have hcz : ((cntTo rs2 j : Nat) : Int) ≠ 0 := by rw [HCN.out]; omega
     have hcz1 : (((cntTo rs2 j : Nat) : Int) == 0) = false := by simpa using hcz
     obtain ⟨k, hp⟩ := pick_there HG3.out.good (fun i hi => HO.out i (HG3.out.lt i hi)) (fun i hi => HM.out i (HG3.out.lt i hi)) (fun e => hz (by rw [e]; rfl))
     obtain ⟨hd, tl, hk, hr, _⟩ := pick_some hp
     have HPK := hid hp
     have HRK := hid hr
     have hkn : k < j := by have := HLN.out; omega
     have f0 := cell_of_row _ _ 0 _ _ _ HFF.out
     simp only [List.getElem?_toArray, List.getElem?_cons_zero] at f0
     have HIX := hid (midx_any (InOk w.heap.size (.slice po j co)) l p c w.heap.size W0.heap.size (firstOf l rs2.flatten) rs2 vals2 po co wr hl hr2l (fun r h => Nat.le_trans (flat_mem_len h) hnl) (HR.out wr HG3.out.below) (fun r h i hi => HG3.out.lt i (List.mem_flatten.2 ⟨r, h, hi⟩)) (own_slice_row HG3.out.out) HG3.out.ins (cell_of_row _ _ 0 _ _ _ HG3.out.box) f0 (Array.getElem?_eq_some_iff.1 HG3.out.box).1 (Array.getElem?_eq_some_iff.1 HFF.out).1)
     rw [HLN.out] at HIX
     change Hid (Calls _ _ _ _ (fun e w' => e = .returned (.int .i64 (idxV (pickR l rs2))) ∧ _)) at HIX
     rw [hp] at HIX
     change Hid (Calls _ _ _ _ (fun e w' => e = .returned (.int .i64 ((k : Nat) : Int)) ∧ _)) at HIX
     obtain ⟨g, co', e, hge, hgl, -⟩ := own_block HG3.out.out (by have := HLN.out; omega)
     rw [HLN.out] at e
     cases e
     obtain ⟨pk, ck, hv, hck, hnk, hrk, hik⟩ := HG3.out.ins.each k hk
     have hrm : Row wr pk ((hd :: tl).map natVLn) := by rw [← hr]; exact hrk
     obtain ⟨bk, ok, rfl, hbk, -⟩ := hrm.at (by simp)
     have HVK := hid hv
     have HCK := hid hck
     have HNK := hid hnk
     obtain ⟨m, hm⟩ : ∃ m, m = rs2[k].length := ⟨_, rfl⟩
     have hm1 : m = tl.length + 1 := by rw [hm, hr]; simp
     have hm2 : (1 : Int) ≤ (m : Int) := by omega
     have hm3 : 0 < m := by omega
     have hm4 : (m : Int) ≤ (ck : Int) := by rw [hm]; omega
     rw [← hm] at hv
     have HMK := hid hm
     have HM1 := hid hm1
     have HRM := hid hrm
     have hjk : decide ((k : Int) < 0) = false := decide_eq_false (by omega)
     clear hz hcz hp hr f0 hck hnk hrk hik hrm hm hm1
     go_wp2_with (first
      | (go_at_call 54; (with_reducible refine HIX.out.mono ?_); rintro e w7 ⟨rfl, hb7⟩; have HG7 := hid (HG3.out.below1 hB hb7); have HB7 := hid hb7; have q0 := val_at (own_slice_row HG7.out.out) k _ hv; have q1 := nat_at (HRM.out.below hb7) 0 (by simp); simp only [List.getD_cons_zero, Nat.add_zero, Nat.zero_add] at q0 q1; clear hb7)
      | ((with_reducible show wpList _ _ _ (⟨some 60, _, _, _, _, _⟩ :: _) _ _); go_loud (refine wpList_app EInt rfl _ _ rfl (w.heap.size + 1) _ _ _ rfl (HG7.out.ord.alloc _) _ 1 1 [natVLn hd] rfl rfl (by simp) (row_newAt _ _ _ _ (by simp)) (by simp [natVLn, Value.oneCell']) (by have := HG7.out.len; unfold maxLen; omega) (by have := HG7.out.len; omega) (by have := (Array.getElem?_eq_some_iff.1 HG7.out.box).1; simp; omega) ?_); intro v8 w8 ho8 hg8 hs8; have HO8 := hid ho8; have HG8 := hid hg8; obtain ⟨p8, c8, rfl, -⟩ := own_shape ho8; obtain ⟨z0, z1⟩ := own_cell (own_cast (HG7.out.out2 hB ((Below.refl _ _).alloc (Nat.le_refl _) _) hg8) HLN.out rfl) k (by have := HG7.out.ins.len; omega); have z2 : w8.cell? ⟨g, k, none⟩ = some (.slice (some ⟨bk, ok, none⟩) m ck) := z0.trans (congrArg some (List.getElem?_eq_some_iff.1 hv).2); clear ho8 hg8 hs8 z0 q0 q1))
     have hme : m - 1 = tl.length := by have := HM1.out; omega
     rw [hme]
     have hts := tail_slice (pk := some ⟨bk, ok, none⟩) (hd := hd) (ck := ck) (tl := tl) (by have := HCK.out; rw [HRK.out] at this; exact this) HNK.out
     have hol : o.length < N := by
      have h1 := HG3.out.len
      have h2 := (flatten_set hk HRK.out).length_eq
      simp only [List.length_cons] at h2
      omega
     exact ⟨⟨o ++ [hd], _, rs2.set k tl, by rw [List.length_set]; exact HLN.out, HG3.out.app (by rw [HLN.out]) hB (HB7.out.alloc HB7.out.size _) hk HRK.out HPK.out HVK.out HG8.out HO8.out _ hts⟩, by show N - (o.length + 1) < N - o.length; omega⟩
end Go.Proofs.YtabkmdhkfbcldaaGreat
