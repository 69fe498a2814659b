/-
  The document's order of symbols.
-/
import Derived.Test.YteccpmmedpkddaaJN9
namespace Go.Proofs.Yteccpmmedpkddaa
open Go.RowKit
variable {W w w' : World}
def nat64 (i : Nat) : Value := .int .i64 (i : Int)
theorem nat_ones (l : List Nat) : ∀ u ∈ l.map nat64, u.oneCell' = true := fun u hu => by
  obtain ⟨n, -, rfl⟩ := List.mem_map.1 hu
  rfl
theorem EInt : Elem Try.prog 81 3 1 8 (.int .i64 0) := Elem.mk' Try.underlying81 (by kernel_rfl) rfl (by decide)
def stepN (ahead : Nat → Nat → Bool) (i : Nat) (s : List Nat × Bool) (k : Nat) : List Nat × Bool := if (!s.2 && ahead i k) = true then ((s.1 ++ [i]) ++ [k], true) else (s.1 ++ [k], s.2)
theorem stepN_done (ahead : Nat → Nat → Bool) (i : Nat) : ∀ (l acc : List Nat), l.foldl (stepN ahead i) (acc, true) = (acc ++ l, true)
  | [], acc => by simp
  | k :: l, acc => by
    rw [List.foldl_cons]
    have : stepN ahead i (acc, true) k = (acc ++ [k], true) := by unfold stepN; simp
    rw [this, stepN_done ahead i l]; simp
theorem stepN_ins (ahead : Nat → Nat → Bool) (i : Nat) : ∀ (l acc : List Nat), (if (l.foldl (stepN ahead i) (acc, false)).2 = true then (l.foldl (stepN ahead i) (acc, false)).1 else (l.foldl (stepN ahead i) (acc, false)).1 ++ [i]) = acc ++ insNo ahead i l
  | [], acc => by simp [insNo]
  | k :: l, acc => by
    rw [List.foldl_cons]
    cases h : ahead i k with
    | true =>
      have : stepN ahead i (acc, false) k = ((acc ++ [i]) ++ [k], true) := by unfold stepN; simp [h]
      rw [this, stepN_done, if_pos rfl]
      simp [insNo, h]
    | false =>
      have : stepN ahead i (acc, false) k = (acc ++ [k], false) := by unfold stepN; simp [h]
      rw [this, stepN_ins ahead i l]
      simp [insNo, h]
theorem stepN_len (ahead : Nat → Nat → Bool) (i : Nat) : ∀ (l : List Nat) (s : List Nat × Bool), (l.foldl (stepN ahead i) s).1.length ≤ s.1.length + 2 * l.length
  | [], s => by simp
  | x :: l, s => by
    rw [List.foldl_cons]
    refine Nat.le_trans (stepN_len ahead i l _) ?_
    unfold stepN
    split <;> simp <;> omega
theorem nat_cell {b o : Nat} {ys : List Nat} (h : Row w (some ⟨b, o, none⟩) (ys.map nat64)) (k : Nat) (hk : k < ys.length) : w.cell? ⟨b, o + k, none⟩ = some (.int .i64 ((ys[k] : Nat) : Int)) := by
  rw [h.cell k (by simpa using hk)]
  simp [nat64]
/-- What order gives. -/
structure OrdT (W : World) (l : List Nat) (e : Ending) (w' : World) : Prop where
  ex : ∃ v, e = .returned v ∧ w'.ownsRow W.heap.size 3 1 v l.length (l.map nat64)
  b : Below W.heap.size W w'
/-- Between two numbers that are put into the list. -/
structure OrdJ (Wr : World) (s : List Nat × Bool) (v d : Value) (w : World) : Prop where
  own : w.ownsRow Wr.heap.size 3 1 v s.1.length (s.1.map nat64)
  done : d = .bool s.2
  b : Below Wr.heap.size Wr w
theorem OrdJ.below {Wr : World} {s : List Nat × Bool} {v d : Value} (h : OrdJ Wr s v d w) (hb : Below w.heap.size w w') : OrdJ Wr s v d w' := ⟨own_below h.own hb, h.done, h.b.trans (hb.mono h.b.size)⟩
theorem OrdJ.app {Wr : World} {s : List Nat × Bool} {v d v' d' : Value} {x : Nat} {b' : Bool} (h : OrdJ Wr s v d w) (o : Obj) (ho : w'.ownsRow Wr.heap.size 3 1 v' (s.1.length + 1) (s.1.map nat64 ++ [nat64 x])) (hg : (w.alloc o).grownBy w' v.ownBlock) (hd : d' = .bool b') : OrdJ Wr (s.1 ++ [x], b') v' d' w' := by
  have hA := h.below (of_alloc (o := o) rfl).1
  refine ⟨?_, hd, hA.b.grown hg hA.b.size (fun g e => own_ge hA.own g e)⟩
  show w'.ownsRow _ _ _ _ (s.1 ++ [x]).length ((s.1 ++ [x]).map nat64)
  rw [List.length_append, List.map_append]
  simpa using ho
set_option maxRecDepth 40000 in
set_option maxHeartbeats 8000000 in
theorem rorder_any (p : Option Addr) (c : Nat) (l : List Sy) (W : World) (hrow : Row W p (l.flatMap Sy.cells)) (hlen : l.length ≤ 100000) :
    Calls Try.prog 57 #[.slice p l.length c] W (OrdT W (ordP l)) := by
  have HROW := hid hrow
  obtain ⟨N, hN⟩ : ∃ N, N = l.length := ⟨_, rfl⟩
  have HN := hid hN
  rw [← hN] at hlen ⊢
  clear hrow hN
  go_enter Try.func57, Try.ntmps57
  go_wp2_with (fail)
  go_loopw [3, 4] (fun v i wr => ∃ (k : Nat), k ≤ N ∧ i = .int .i64 k ∧ Aside (wr.ownsRow W.heap.size 3 1 v (ordTo l k).length ((ordTo l k).map nat64) ∧ Below W.heap.size W wr)) (fun _ i _ => N - (intOf i).toNat)
  case atStart => exact ⟨0, Nat.zero_le _, rfl, ⟨World.ownsRow_nil _ _ _ _, Below.refl _ _⟩⟩
  case round =>
    rename World => wr
    obtain ⟨k, hk, rfl, hi⟩ := hrel
    have HI : Hid _ := hi.out
    obtain ⟨out, hout⟩ : ∃ out, out = ordTo l k := ⟨_, rfl⟩
    have hol : out.length = k := by rw [hout]; simpa using (ordTo_perm l k).length_eq
    have hom : ∀ q ∈ out, q < k := fun q hq => by rw [hout] at hq; exact List.mem_range.1 ((ordTo_perm l k).subset hq)
    have HOUT := hid hout
    have HOM := hid hom
    have HOL := hid hol
    have hown := HI.out.1
    rw [← hout, hol] at hown
    obtain ⟨op, oc, rfl, -⟩ := own_shape hown
    have HOWN := hid hown
    have HBW : Hid (Below W.heap.size W wr) := HI.out.2
    clear hi HI hout hown hom hol
    by_cases hlt : k < N
    · have hkI : (k : Int) < N := by omega
      have hkl : k < l.length := by rw [← HN.out]; exact hlt
      go_wp2_with (fail)
      go_loopw [5, 6, 7] (fun v d i wy => ∃ (j : Nat), j ≤ k ∧ i = .int .i64 j ∧ OrdJ wr ((out.take j).foldl (stepN (fun a b => aheadP (atSy l a) (atSy l b)) k) ([], false)) v d wy) (fun _ _ i _ => k - (intOf i).toNat)
      case atStart => exact ⟨0, Nat.zero_le _, rfl, ⟨World.ownsRow_nil _ _ _ _, rfl, Below.refl _ _⟩⟩
      case round =>
        rename World => wy
        obtain ⟨j, hj, rfl, hi⟩ := hrel
        obtain ⟨s, hs⟩ : ∃ s, s = (out.take j).foldl (stepN (fun a b => aheadP (atSy l a) (atSy l b)) k) ([], false) := ⟨_, rfl⟩
        have HS := hid hs
        have hsl : s.1.length ≤ 2 * j := by
          rw [hs]
          refine Nat.le_trans (stepN_len _ _ _ _) ?_
          rw [List.length_take]; simp; omega
        rw [← hs] at hi
        have hd := hi.done
        subst hd
        have HI := hid hi
        obtain ⟨vp, vc, rfl, -⟩ := own_shape hi.own
        have HBY := hid hi.b
        have hbz : wr.heap.size ≤ wy.heap.size := hi.b.size
        by_cases hjl : j < k
        · have hjI : (j : Int) < k := by omega
          have hjo : j < out.length := by rw [HOL.out]; exact hjl
          have hsyr := HROW.out
          obtain ⟨b, off, rfl, hbl, -⟩ := hsyr.at (by rw [flat_len Sy.cells 4 (fun _ => rfl)]; omega)
          obtain ⟨ob, hop, -⟩ : ∃ g, op = some ⟨g, 0, none⟩ ∧ True := by
            obtain ⟨g, c2, e, _⟩ := own_block HOWN.out (by omega)
            cases e; exact ⟨g, rfl, trivial⟩
          subst hop
          have hob : ob < wr.heap.size := own_lt HOWN.out ob rfl
          have hor : Row wr (some ⟨ob, 0, none⟩) (out.map nat64) := by
            obtain ⟨p3, c3, e3, hr3⟩ := own_shape HOWN.out
            cases e3; exact hr3
          obtain ⟨q, hq⟩ : ∃ q, q = out[j] := ⟨_, rfl⟩
          have hqk : q < k := by rw [hq]; exact HOM.out _ (List.getElem_mem _)
          have hql : q < l.length := by omega
          have HST : Hid ((out.take (j + 1)).foldl (stepN (fun a b => aheadP (atSy l a) (atSy l b)) k) ([], false) = stepN (fun a b => aheadP (atSy l a) (atSy l b)) k s q) := by
            unfold Hid
            rw [List.take_add_one, List.getElem?_eq_getElem hjo, Option.toList_some, List.foldl_append, ← hs, ← hq]; rfl
          have HBYW : Hid (∀ w, Below wy.heap.size wy w → Below W.heap.size W w ∧ Below wr.heap.size wr w) := fun w h => by
            have h2 := HBY.out.trans (h.mono HBY.out.size)
            exact ⟨HBW.out.trans (h2.mono HBW.out.size), h2⟩
          have A := fun (w' : World) (hw : Below wy.heap.size wy w') => sy_cells (hsyr.below (HBYW.out w' hw).1) k hkl
          have D := fun (w' : World) (hw : Below wy.heap.size wy w') => sy_cells (hsyr.below (HBYW.out w' hw).1) q hql
          have E := fun (w' : World) (hw : Below wy.heap.size wy w') => (by have := nat_cell (hor.below (HBYW.out w' hw).2) j hjo; rwa [Nat.zero_add] at this : w'.cell? ⟨ob, j, none⟩ = some (.int .i64 ((out[j] : Nat) : Int)))
          rw [← hq] at E
          have E0 : Hid (wr.cell? ⟨ob, j, none⟩ = some (.int .i64 ((q : Nat) : Int))) := by have := nat_cell hor j hjo; rw [Nat.zero_add, ← hq] at this; exact this
          have HAT : Hid (atSy l k = l[k] ∧ atSy l q = l[q]) := by show _ ∧ _; unfold atSy; simp [List.getD_eq_getElem?_getD, hkl, hql]
          generalize l[k] = x at *
          generalize l[q] = y at *
          obtain ⟨xn, xs, xv, xg⟩ := x
          obtain ⟨yn, ys, yv, yg⟩ := y
          have HAH := hid (fun w => ahead_any ⟨xn, xs, xv, xg⟩ ⟨yn, ys, yv, yg⟩ w)
          unfold Sy.cells at HAH
          dsimp only at A D HAH
          obtain ⟨ah, hah⟩ : ∃ ah, ah = aheadP ⟨xn, xs, xv, xg⟩ ⟨yn, ys, yv, yg⟩ := ⟨_, rfl⟩
          have HAHV : Hid (aheadP (atSy l k) (atSy l q) = ah) := by show _ = _; rw [HAT.out.1, HAT.out.2, hah]
          rw [← hah] at HAH
          have a0 := fun w' hw => (A w' hw).1
          have a1 := fun w' hw => (A w' hw).2.1
          have a2 := fun w' hw => (A w' hw).2.2.1
          have a3 := fun w' hw => (A w' hw).2.2.2
          have d0 := fun w' hw => (D w' hw).1
          have d1 := fun w' hw => (D w' hw).2.1
          have d2 := fun w' hw => (D w' hw).2.2.1
          have d3 := fun w' hw => (D w' hw).2.2.2
          obtain ⟨sd, hsd⟩ : ∃ sd, sd = s.2 := ⟨_, rfl⟩
          have HSD := hid hsd
          rw [← hsd]
          obtain ⟨Bv, hB⟩ : ∃ B, B = (!sd && ah) := ⟨_, rfl⟩
          have HB := hid hB
          have hqn : ((q : Nat) : Int).toNat = q := by omega
          have hkn : ((k : Nat) : Int).toNat = k := by omega
          have hqI : (q : Int) < N := by omega
          have hq0 : (0 : Int) ≤ (q : Int) := by omega
          have hk0 : (0 : Int) ≤ (k : Int) := by omega
          clear hi hsyr hor hs hsd hB hah hq A D HAT
          go_upto_region 10 with (fail)
          go_cut [35] from 20 to 34 (fun v wx => v = .bool Bv ∧ Below wy.heap.size wy wx)
          case first =>
            obtain ⟨wd, hwd⟩ : ∃ wd, wd = wy.drew := ⟨_, rfl⟩
            have hbd : Below wy.heap.size wy wd := by rw [hwd]; exact (Below.refl _ _).drew
            have HBD := hid hbd
            cases sd with
            | true =>
              refine wp_region_held_drew (S := fun w' => Below wy.heap.size wy w') (by kernel_rfl) (by rw [← hwd]; exact hbd) (fun hHeld => ?_)
              rw [← hwd] at *
              refine wpAnyH_take (i := 0) (oi := { dst := some 20, op := Op.move (Operand.tmp 6), type := 4, pos := "ref.go:159", after := #[], guard := none }) (v := ?pav0) rfl (by kernel_rfl) (by kernel_rfl) (by kernel_rfl) (fun _ _ _ h => h) (Or.inl ⟨by rfl, ?pah0⟩) (by assumption) ?par0
              case pah0 => ((intro w hSw; (try dsimp only at hSw); go_simp); try with_reducible rfl)
              try simp only [Act.put, List.setIfInBounds_toArray, List.set_cons_zero, List.set_cons_succ]
              refine wpAnyH_take (i := 1) (oi := { dst := some 21, op := Op.unOp UnOp.not 4 (Operand.tmp 20), type := 4, pos := "ref.go:159", after := #[{ on := 0, ground := Ground.data }], guard := none }) (v := ?pav1) rfl (by kernel_rfl) (by kernel_rfl) (by kernel_rfl) (fun _ _ _ h => h) (Or.inl ⟨by rfl, ?pah1⟩) (by assumption) ?par1
              case pah1 => ((intro w hSw; (try dsimp only at hSw); go_simp); try with_reducible rfl)
              try simp only [Act.put, List.setIfInBounds_toArray, List.set_cons_zero, List.set_cons_succ]
              refine wpAnyH_take (i := 2) (oi := { dst := some 22, op := Op.move (Operand.tmp 21), type := 4, pos := "ref.go:159", after := #[{ on := 1, ground := Ground.data }], guard := none }) (v := ?pav2) rfl (by kernel_rfl) (by kernel_rfl) (by kernel_rfl) (fun _ _ _ h => h) (Or.inl ⟨by rfl, ?pah2⟩) (by assumption) ?par2
              case pah2 => ((intro w hSw; (try dsimp only at hSw); go_simp); try with_reducible rfl)
              try simp only [Act.put, List.setIfInBounds_toArray, List.set_cons_zero, List.set_cons_succ]
              refine wpAnyH_take (i := 3) (oi := { dst := some 23, op := Op.move (Operand.tmp 0), type := 23, pos := "ref.go:159", after := #[{ on := 2, ground := Ground.guard }], guard := some (2, true) }) (v := undef) rfl (by kernel_rfl) (by kernel_rfl) (by kernel_rfl) (fun _ _ _ h => h) (Or.inr ⟨by rfl, rfl⟩) (by assumption) ?_
              try simp only [Act.put, List.setIfInBounds_toArray, List.set_cons_zero, List.set_cons_succ]
              refine wpAnyH_take (i := 4) (oi := { dst := some 24, op := Op.move (Operand.tmp 4), type := 3, pos := "ref.go:159", after := #[{ on := 2, ground := Ground.guard }], guard := some (2, true) }) (v := undef) rfl (by kernel_rfl) (by kernel_rfl) (by kernel_rfl) (fun _ _ _ h => h) (Or.inr ⟨by rfl, rfl⟩) (by assumption) ?_
              try simp only [Act.put, List.setIfInBounds_toArray, List.set_cons_zero, List.set_cons_succ]
              refine wpAnyH_take (i := 5) (oi := { dst := some 25, op := Op.indexAddr 23 (Operand.tmp 23) (Operand.tmp 24), type := 0, pos := "ref.go:159", after := #[{ on := 3, ground := Ground.data }, { on := 4, ground := Ground.data }, { on := 2, ground := Ground.guard }], guard := some (2, true) }) (v := undef) rfl (by kernel_rfl) (by kernel_rfl) (by kernel_rfl) (fun _ _ _ h => h) (Or.inr ⟨by rfl, rfl⟩) (by assumption) ?_
              try simp only [Act.put, List.setIfInBounds_toArray, List.set_cons_zero, List.set_cons_succ]
              refine wpAnyH_take (i := 6) (oi := { dst := some 26, op := Op.load 36 (Operand.tmp 25), type := 36, pos := "ref.go:159", after := #[{ on := 5, ground := Ground.data }, { on := 2, ground := Ground.guard }], guard := some (2, true) }) (v := undef) rfl (by kernel_rfl) (by kernel_rfl) (by kernel_rfl) (fun _ _ _ h => h) (Or.inr ⟨by rfl, rfl⟩) (by assumption) ?_
              try simp only [Act.put, List.setIfInBounds_toArray, List.set_cons_zero, List.set_cons_succ]
              refine wpAnyH_take (i := 7) (oi := { dst := some 27, op := Op.move (Operand.tmp 0), type := 23, pos := "ref.go:159", after := #[{ on := 2, ground := Ground.guard }], guard := some (2, true) }) (v := undef) rfl (by kernel_rfl) (by kernel_rfl) (by kernel_rfl) (fun _ _ _ h => h) (Or.inr ⟨by rfl, rfl⟩) (by assumption) ?_
              try simp only [Act.put, List.setIfInBounds_toArray, List.set_cons_zero, List.set_cons_succ]
              refine wpAnyH_take (i := 8) (oi := { dst := some 28, op := Op.move (Operand.tmp 3), type := 81, pos := "ref.go:159", after := #[{ on := 2, ground := Ground.guard }], guard := some (2, true) }) (v := undef) rfl (by kernel_rfl) (by kernel_rfl) (by kernel_rfl) (fun _ _ _ h => h) (Or.inr ⟨by rfl, rfl⟩) (by assumption) ?_
              try simp only [Act.put, List.setIfInBounds_toArray, List.set_cons_zero, List.set_cons_succ]
              refine wpAnyH_take (i := 9) (oi := { dst := some 29, op := Op.move (Operand.tmp 7), type := 3, pos := "ref.go:159", after := #[{ on := 2, ground := Ground.guard }], guard := some (2, true) }) (v := undef) rfl (by kernel_rfl) (by kernel_rfl) (by kernel_rfl) (fun _ _ _ h => h) (Or.inr ⟨by rfl, rfl⟩) (by assumption) ?_
              try simp only [Act.put, List.setIfInBounds_toArray, List.set_cons_zero, List.set_cons_succ]
              refine wpAnyH_take (i := 10) (oi := { dst := some 30, op := Op.indexAddr 81 (Operand.tmp 28) (Operand.tmp 29), type := 0, pos := "ref.go:159", after := #[{ on := 8, ground := Ground.data }, { on := 9, ground := Ground.data }, { on := 2, ground := Ground.guard }], guard := some (2, true) }) (v := undef) rfl (by kernel_rfl) (by kernel_rfl) (by kernel_rfl) (fun _ _ _ h => h) (Or.inr ⟨by rfl, rfl⟩) (by assumption) ?_
              try simp only [Act.put, List.setIfInBounds_toArray, List.set_cons_zero, List.set_cons_succ]
              refine wpAnyH_take (i := 11) (oi := { dst := some 31, op := Op.load 3 (Operand.tmp 30), type := 3, pos := "ref.go:159", after := #[{ on := 10, ground := Ground.data }, { on := 2, ground := Ground.guard }], guard := some (2, true) }) (v := undef) rfl (by kernel_rfl) (by kernel_rfl) (by kernel_rfl) (fun _ _ _ h => h) (Or.inr ⟨by rfl, rfl⟩) (by assumption) ?_
              try simp only [Act.put, List.setIfInBounds_toArray, List.set_cons_zero, List.set_cons_succ]
              refine wpAnyH_take (i := 12) (oi := { dst := some 32, op := Op.indexAddr 23 (Operand.tmp 27) (Operand.tmp 31), type := 0, pos := "ref.go:159", after := #[{ on := 7, ground := Ground.data }, { on := 11, ground := Ground.data }, { on := 2, ground := Ground.guard }], guard := some (2, true) }) (v := undef) rfl (by kernel_rfl) (by kernel_rfl) (by kernel_rfl) (fun _ _ _ h => h) (Or.inr ⟨by rfl, rfl⟩) (by assumption) ?_
              try simp only [Act.put, List.setIfInBounds_toArray, List.set_cons_zero, List.set_cons_succ]
              refine wpAnyH_take (i := 13) (oi := { dst := some 33, op := Op.load 36 (Operand.tmp 32), type := 36, pos := "ref.go:159", after := #[{ on := 12, ground := Ground.data }, { on := 2, ground := Ground.guard }], guard := some (2, true) }) (v := undef) rfl (by kernel_rfl) (by kernel_rfl) (by kernel_rfl) (fun _ _ _ h => h) (Or.inr ⟨by rfl, rfl⟩) (by assumption) ?_
              try simp only [Act.put, List.setIfInBounds_toArray, List.set_cons_zero, List.set_cons_succ]
              refine wpAnyH_take (i := 14) (oi := { dst := some 34, op := Op.call { callee := Callee.value (Operand.func 42), args := #[Operand.tmp 26, Operand.tmp 33], argTypes := #[36, 36] }, type := 4, pos := "ref.go:159", after := #[{ on := 6, ground := Ground.data }, { on := 13, ground := Ground.data }, { on := 2, ground := Ground.chain }, { on := 2, ground := Ground.guard }], guard := some (2, true) }) (v := undef) rfl (by kernel_rfl) (by kernel_rfl) (by kernel_rfl) (fun _ _ _ h => h) (Or.inr ⟨by rfl, rfl⟩) (by assumption) ?_
              try simp only [Act.put, List.setIfInBounds_toArray, List.set_cons_zero, List.set_cons_succ]
              refine wpAnyH_take (i := 15) (oi := { dst := some 35, op := Op.pick (Operand.tmp 22) (Operand.tmp 34) (Operand.const (Value.bool false)), type := 4, pos := "ref.go:159", after := #[{ on := 2, ground := Ground.data }, { on := 14, ground := Ground.data }], guard := none }) (v := ?pav15) rfl (by kernel_rfl) (by kernel_rfl) (by kernel_rfl) (fun _ _ _ h => h) (Or.inl ⟨by rfl, ?pah15⟩) (by assumption) ?par15
              case pah15 => ((intro w hSw; (try dsimp only at hSw); go_simp); try with_reducible rfl)
              try simp only [Act.put, List.setIfInBounds_toArray, List.set_cons_zero, List.set_cons_succ]
              refine wpAnyH_done (by kernel_rfl) ?_ _
              go_wp2_with fail
              go_meet
              exact ⟨by rw [HB.out]; rfl, HBD.out⟩
            | false =>
              refine wp_region_held_drew (S := fun w' => Below wy.heap.size wy w') (by kernel_rfl) (by rw [← hwd]; exact hbd) (fun hHeld => ?_)
              rw [← hwd] at *
              refine wpAnyH_take (i := 0) (oi := { dst := some 20, op := Op.move (Operand.tmp 6), type := 4, pos := "ref.go:159", after := #[], guard := none }) (v := ?pbv0) rfl (by kernel_rfl) (by kernel_rfl) (by kernel_rfl) (fun _ _ _ h => h) (Or.inl ⟨by rfl, ?pbh0⟩) (by assumption) ?pbr0
              case pbh0 => ((intro w hSw; (try dsimp only at hSw); go_simp); try with_reducible rfl)
              try simp only [Act.put, List.setIfInBounds_toArray, List.set_cons_zero, List.set_cons_succ]
              refine wpAnyH_take (i := 1) (oi := { dst := some 21, op := Op.unOp UnOp.not 4 (Operand.tmp 20), type := 4, pos := "ref.go:159", after := #[{ on := 0, ground := Ground.data }], guard := none }) (v := ?pbv1) rfl (by kernel_rfl) (by kernel_rfl) (by kernel_rfl) (fun _ _ _ h => h) (Or.inl ⟨by rfl, ?pbh1⟩) (by assumption) ?pbr1
              case pbh1 => ((intro w hSw; (try dsimp only at hSw); go_simp); try with_reducible rfl)
              try simp only [Act.put, List.setIfInBounds_toArray, List.set_cons_zero, List.set_cons_succ]
              refine wpAnyH_take (i := 2) (oi := { dst := some 22, op := Op.move (Operand.tmp 21), type := 4, pos := "ref.go:159", after := #[{ on := 1, ground := Ground.data }], guard := none }) (v := ?pbv2) rfl (by kernel_rfl) (by kernel_rfl) (by kernel_rfl) (fun _ _ _ h => h) (Or.inl ⟨by rfl, ?pbh2⟩) (by assumption) ?pbr2
              case pbh2 => ((intro w hSw; (try dsimp only at hSw); go_simp); try with_reducible rfl)
              try simp only [Act.put, List.setIfInBounds_toArray, List.set_cons_zero, List.set_cons_succ]
              refine wpAnyH_take (i := 3) (oi := { dst := some 23, op := Op.move (Operand.tmp 0), type := 23, pos := "ref.go:159", after := #[{ on := 2, ground := Ground.guard }], guard := some (2, true) }) (v := ?pbv3) rfl (by kernel_rfl) (by kernel_rfl) (by kernel_rfl) (fun _ _ _ h => h) (Or.inl ⟨by rfl, ?pbh3⟩) (by assumption) ?pbr3
              case pbh3 => ((intro w hSw; (try dsimp only at hSw); go_simp); try with_reducible rfl)
              try simp only [Act.put, List.setIfInBounds_toArray, List.set_cons_zero, List.set_cons_succ]
              refine wpAnyH_take (i := 4) (oi := { dst := some 24, op := Op.move (Operand.tmp 4), type := 3, pos := "ref.go:159", after := #[{ on := 2, ground := Ground.guard }], guard := some (2, true) }) (v := ?pbv4) rfl (by kernel_rfl) (by kernel_rfl) (by kernel_rfl) (fun _ _ _ h => h) (Or.inl ⟨by rfl, ?pbh4⟩) (by assumption) ?pbr4
              case pbh4 => ((intro w hSw; (try dsimp only at hSw); go_simp); try with_reducible rfl)
              try simp only [Act.put, List.setIfInBounds_toArray, List.set_cons_zero, List.set_cons_succ]
              refine wpAnyH_take (i := 5) (oi := { dst := some 25, op := Op.indexAddr 23 (Operand.tmp 23) (Operand.tmp 24), type := 0, pos := "ref.go:159", after := #[{ on := 3, ground := Ground.data }, { on := 4, ground := Ground.data }, { on := 2, ground := Ground.guard }], guard := some (2, true) }) (v := ?pbv5) rfl (by kernel_rfl) (by kernel_rfl) (by kernel_rfl) (fun _ _ _ h => h) (Or.inl ⟨by rfl, ?pbh5⟩) (by assumption) ?pbr5
              case pbh5 => ((intro w hSw; (try dsimp only at hSw); go_simp); try with_reducible rfl)
              try simp only [Act.put, List.setIfInBounds_toArray, List.set_cons_zero, List.set_cons_succ]
              refine wpAnyH_take (i := 6) (oi := { dst := some 26, op := Op.load 36 (Operand.tmp 25), type := 36, pos := "ref.go:159", after := #[{ on := 5, ground := Ground.data }, { on := 2, ground := Ground.guard }], guard := some (2, true) }) (v := ?pbv6) rfl (by kernel_rfl) (by kernel_rfl) (by kernel_rfl) (fun _ _ _ h => h) (Or.inl ⟨by rfl, ?pbh6⟩) (by assumption) ?pbr6
              case pbh6 => ((intro w hSw; (try dsimp only at hSw); go_simp); try with_reducible rfl)
              try simp only [Act.put, List.setIfInBounds_toArray, List.set_cons_zero, List.set_cons_succ]
              refine wpAnyH_take (i := 7) (oi := { dst := some 27, op := Op.move (Operand.tmp 0), type := 23, pos := "ref.go:159", after := #[{ on := 2, ground := Ground.guard }], guard := some (2, true) }) (v := ?pbv7) rfl (by kernel_rfl) (by kernel_rfl) (by kernel_rfl) (fun _ _ _ h => h) (Or.inl ⟨by rfl, ?pbh7⟩) (by assumption) ?pbr7
              case pbh7 => ((intro w hSw; (try dsimp only at hSw); go_simp); try with_reducible rfl)
              try simp only [Act.put, List.setIfInBounds_toArray, List.set_cons_zero, List.set_cons_succ]
              refine wpAnyH_take (i := 8) (oi := { dst := some 28, op := Op.move (Operand.tmp 3), type := 81, pos := "ref.go:159", after := #[{ on := 2, ground := Ground.guard }], guard := some (2, true) }) (v := ?pbv8) rfl (by kernel_rfl) (by kernel_rfl) (by kernel_rfl) (fun _ _ _ h => h) (Or.inl ⟨by rfl, ?pbh8⟩) (by assumption) ?pbr8
              case pbh8 => ((intro w hSw; (try dsimp only at hSw); go_simp); try with_reducible rfl)
              try simp only [Act.put, List.setIfInBounds_toArray, List.set_cons_zero, List.set_cons_succ]
              refine wpAnyH_take (i := 9) (oi := { dst := some 29, op := Op.move (Operand.tmp 7), type := 3, pos := "ref.go:159", after := #[{ on := 2, ground := Ground.guard }], guard := some (2, true) }) (v := ?pbv9) rfl (by kernel_rfl) (by kernel_rfl) (by kernel_rfl) (fun _ _ _ h => h) (Or.inl ⟨by rfl, ?pbh9⟩) (by assumption) ?pbr9
              case pbh9 => ((intro w hSw; (try dsimp only at hSw); go_simp); try with_reducible rfl)
              try simp only [Act.put, List.setIfInBounds_toArray, List.set_cons_zero, List.set_cons_succ]
              refine wpAnyH_take (i := 10) (oi := { dst := some 30, op := Op.indexAddr 81 (Operand.tmp 28) (Operand.tmp 29), type := 0, pos := "ref.go:159", after := #[{ on := 8, ground := Ground.data }, { on := 9, ground := Ground.data }, { on := 2, ground := Ground.guard }], guard := some (2, true) }) (v := ?pbv10) rfl (by kernel_rfl) (by kernel_rfl) (by kernel_rfl) (fun _ _ _ h => h) (Or.inl ⟨by rfl, ?pbh10⟩) (by assumption) ?pbr10
              case pbh10 => ((intro w hSw; (try dsimp only at hSw); go_simp); try with_reducible rfl)
              try simp only [Act.put, List.setIfInBounds_toArray, List.set_cons_zero, List.set_cons_succ]
              refine wpAnyH_take (i := 11) (oi := { dst := some 31, op := Op.load 3 (Operand.tmp 30), type := 3, pos := "ref.go:159", after := #[{ on := 10, ground := Ground.data }, { on := 2, ground := Ground.guard }], guard := some (2, true) }) (v := ?pbv11) rfl (by kernel_rfl) (by kernel_rfl) (by kernel_rfl) (fun _ _ _ h => h) (Or.inl ⟨by rfl, ?pbh11⟩) (by assumption) ?pbr11
              case pbh11 => ((intro w hSw; (try dsimp only at hSw); go_simp); try with_reducible rfl)
              try simp only [Act.put, List.setIfInBounds_toArray, List.set_cons_zero, List.set_cons_succ]
              refine wpAnyH_take (i := 12) (oi := { dst := some 32, op := Op.indexAddr 23 (Operand.tmp 27) (Operand.tmp 31), type := 0, pos := "ref.go:159", after := #[{ on := 7, ground := Ground.data }, { on := 11, ground := Ground.data }, { on := 2, ground := Ground.guard }], guard := some (2, true) }) (v := ?pbv12) rfl (by kernel_rfl) (by kernel_rfl) (by kernel_rfl) (fun _ _ _ h => h) (Or.inl ⟨by rfl, ?pbh12⟩) (by assumption) ?pbr12
              case pbh12 => ((intro w hSw; (try dsimp only at hSw); go_simp); try with_reducible rfl)
              try simp only [Act.put, List.setIfInBounds_toArray, List.set_cons_zero, List.set_cons_succ]
              refine wpAnyH_take (i := 13) (oi := { dst := some 33, op := Op.load 36 (Operand.tmp 32), type := 36, pos := "ref.go:159", after := #[{ on := 12, ground := Ground.data }, { on := 2, ground := Ground.guard }], guard := some (2, true) }) (v := ?pbv13) rfl (by kernel_rfl) (by kernel_rfl) (by kernel_rfl) (fun _ _ _ h => h) (Or.inl ⟨by rfl, ?pbh13⟩) (by assumption) ?pbr13
              case pbh13 => ((intro w hSw; (try dsimp only at hSw); go_simp); try with_reducible rfl)
              try simp only [Act.put, List.setIfInBounds_toArray, List.set_cons_zero, List.set_cons_succ]
              refine wpAnyH_ready (rs := [14]) (by kernel_rfl) (by simp) ?_
              refine AllReadyH.cons (o := { dst := some 34, op := Op.call { callee := Callee.value (Operand.func 42), args := #[Operand.tmp 26, Operand.tmp 33], argTypes := #[36, 36] }, type := 4, pos := "ref.go:159", after := #[{ on := 6, ground := Ground.data }, { on := 13, ground := Ground.data }, { on := 2, ground := Ground.chain }, { on := 2, ground := Ground.guard }], guard := some (2, true) }) rfl (fun K hK => ?_) AllReadyH.nil
              go_simp; go_at_call 42; (with_reducible refine (HAH.out _).mono ?_); rintro e w2 ⟨rfl, hb2⟩; have HB2 := hid (hHeld.trans (hb2.mono hHeld.size)); clear hb2; refine hK.out _ _ HB2.out (fun hHeld => ?_)
              clear hK K
              try simp only [Act.put, List.setIfInBounds_toArray, List.set_cons_zero, List.set_cons_succ]
              refine wpAnyH_take (i := 15) (oi := { dst := some 35, op := Op.pick (Operand.tmp 22) (Operand.tmp 34) (Operand.const (Value.bool false)), type := 4, pos := "ref.go:159", after := #[{ on := 2, ground := Ground.data }, { on := 14, ground := Ground.data }], guard := none }) (v := ?pbv15) rfl (by kernel_rfl) (by kernel_rfl) (by kernel_rfl) (fun _ _ _ h => h) (Or.inl ⟨by rfl, ?pbh15⟩) (by assumption) ?pbr15
              case pbh15 => ((intro w hSw; (try dsimp only at hSw); go_simp); try with_reducible rfl)
              try simp only [Act.put, List.setIfInBounds_toArray, List.set_cons_zero, List.set_cons_succ]
              refine wpAnyH_done (by kernel_rfl) ?_ _
              go_wp2_with fail
              go_meet
              exact ⟨by rw [HB.out]; simp, HB2.out⟩
          case rest =>
            rename World => w7
            obtain ⟨rfl, hb7⟩ := hcut
            have hi7 := HI.out.below hb7
            have HI7 := hid hi7
            have hz7 := hi7.b.size
            have E7 := E w7 hb7
            have HB7 := hid hb7
            have HSD2 := HSD.out
            have HB2 := HB.out
            clear hi7 hb7 a0 a1 a2 a3 d0 d1 d2 d3
            cases Bv with
            | true =>
              have HP : Hid (stepN (fun a b => aheadP (atSy l a) (atSy l b)) k s q = ((s.1 ++ [k]) ++ [q], true)) := by
                unfold Hid stepN
                rw [show (fun a b => aheadP (atSy l a) (atSy l b)) k q = ah from HAHV.out, ← HSD2, ← HB2, if_pos rfl]
              clear HSD2 HB2 E
              go_wp2_with (first
                | ((with_reducible show wpList _ _ _ (⟨some 39, _, _, _, _, _⟩ :: _) _ _); go_loud (refine wpList_app EInt rfl _ _ rfl wr.heap.size (.slice vp s.1.length vc) s.1.length (s.1.map nat64) rfl (own_below HI7.out.own ((of_alloc rfl).1)) _ 1 1 [nat64 k] rfl rfl (by intro h; cases h) (row_new _ _ _) (by simp [nat64, Value.oneCell']) (by unfold maxLen; omega) (by omega) (by simp; omega) ?_); go_loud (intro v8 w8 ho8 hg8 hs8; obtain ⟨vp8, vc8, rfl, -⟩ := own_shape ho8; have hi8 := HI7.out.app (b' := true) (d' := .bool true) (x := k) _ ho8 hg8 rfl; have E8 := (hi8.b.cell (p := ⟨ob, j, none⟩) hob).trans ((E0.out)); have HI8 := hid hi8; have hz8 := hi8.b.size; clear ho8 hg8 hs8 hi8 E7))
                | ((with_reducible show wpList _ _ _ (⟨some 46, _, _, _, _, _⟩ :: _) _ _); go_loud (refine wpList_app EInt rfl _ _ rfl wr.heap.size (.slice vp8 (s.1.length + 1) vc8) (s.1.length + 1) ((s.1 ++ [k]).map nat64) rfl (by have q := own_below HI8.out.own ((of_alloc (o := .cells #[nat64 q] 3) rfl).1); rw [List.length_append] at q; exact q) _ 1 1 [nat64 q] rfl rfl (by intro h; cases h) (row_new _ _ _) (by simp [nat64, Value.oneCell']) (by unfold maxLen; omega) (by omega) (by simp; omega) ?_); go_loud (intro v9 w9 ho9 hg9 hs9; obtain ⟨vp9, vc9, rfl, -⟩ := own_shape ho9; have hi9 := HI8.out.app (b' := true) (d' := .bool true) (x := q) _ (by rw [List.length_append]; exact ho9) hg9 rfl; have HI9 := hid hi9; clear ho9 hg9 hs9 hi9)))
              exact ⟨⟨j + 1, by omega, by go_num, by rw [HST.out, HP.out]; exact HI9.out⟩, by simp [intOf]; omega⟩
            | false =>
              have HP : Hid (stepN (fun a b => aheadP (atSy l a) (atSy l b)) k s q = (s.1 ++ [q], s.2)) := by
                unfold Hid stepN
                rw [show (fun a b => aheadP (atSy l a) (atSy l b)) k q = ah from HAHV.out, ← HSD2, ← HB2, if_neg (by decide)]
              clear HSD2 HB2 E
              go_wp2_with ((with_reducible show wpList _ _ _ (⟨some 46, _, _, _, _, _⟩ :: _) _ _); go_loud (refine wpList_app EInt rfl _ _ rfl wr.heap.size (.slice vp s.1.length vc) s.1.length (s.1.map nat64) rfl (own_below HI7.out.own ((of_alloc rfl).1)) _ 1 1 [nat64 q] rfl rfl (by intro h; cases h) (row_new _ _ _) (by simp [nat64, Value.oneCell']) (by unfold maxLen; omega) (by omega) (by simp; omega) ?_); go_loud (intro v9 w9 ho9 hg9 hs9; have hi9 := HI7.out.app (b' := s.2) (d' := .bool sd) (x := q) _ ho9 hg9 (by rw [HSD.out]); obtain ⟨vp9, vc9, rfl, -⟩ := own_shape ho9; have HI9 := hid hi9; clear ho9 hg9 hs9 hi9))
              exact ⟨⟨j + 1, by omega, by go_num, by rw [HST.out, HP.out]; exact HI9.out⟩, by simp [intOf]; omega⟩
        · have hje : j = k := by omega
          subst hje
          rw [List.take_of_length_le (by rw [HOL.out]; exact Nat.le_refl _)] at hs
          have HIN := stepN_ins (fun a b => aheadP (atSy l a) (atSy l b)) j out []
          rw [← hs, List.nil_append] at HIN
          have HNX : Hid (ordTo l (j + 1) = insNo (fun a b => aheadP (atSy l a) (atSy l b)) j out) := by show _ = _; rw [HOUT.out]; rfl
          have HIN2 := hid HIN
          obtain ⟨sd, hsd⟩ : ∃ sd, sd = s.2 := ⟨_, rfl⟩
          have HSD := hid hsd
          rw [← hsd]
          have hzz := HBW.out.size
          clear hi hs hsd HIN
          have HSD2 := HSD.out
          cases sd with
          | true =>
            have HP : Hid (ordTo l (j + 1) = s.1) := by
              show _ = _
              rw [HNX.out, ← HIN2.out, ← HSD2, if_pos rfl]
            clear HSD2
            go_wp2_with fail
            exact ⟨⟨j + 1, by omega, by go_num, ⟨by rw [HP.out]; exact own_base HI.out.own hzz, HBW.out.trans (HBY.out.mono hzz)⟩⟩, by simp [intOf]; omega⟩
          | false =>
            have HP : Hid (ordTo l (j + 1) = s.1 ++ [j]) := by
              show _ = _
              rw [HNX.out, ← HIN2.out, ← HSD2, if_neg (by decide)]
            clear HSD2
            go_wp2_with ((with_reducible show wpList _ _ _ (⟨some 52, _, _, _, _, _⟩ :: _) _ _); go_loud (refine wpList_app EInt rfl _ _ rfl wr.heap.size (.slice vp s.1.length vc) s.1.length (s.1.map nat64) rfl (own_below HI.out.own ((of_alloc rfl).1)) _ 1 1 [nat64 j] rfl rfl (by intro h; cases h) (row_new _ _ _) (by simp [nat64, Value.oneCell']) (by unfold maxLen; omega) (by omega) (by simp; omega) ?_); go_loud (intro v9 w9 ho9 hg9 hs9; have hi9 := HI.out.app (b' := true) (d' := .bool true) (x := j) _ ho9 hg9 rfl; obtain ⟨vp9, vc9, rfl, -⟩ := own_shape ho9; have HI9 := hid hi9; clear ho9 hg9 hs9 hi9))
            exact ⟨⟨j + 1, by omega, by go_num, ⟨by rw [HP.out]; exact own_base HI9.out.own hzz, HBW.out.trans (HI9.out.b.mono hzz)⟩⟩, by simp [intOf]; omega⟩
    · have hke : k = N := by omega
      subst hke
      have HP : Hid (ordP l = out) := by show _ = _; unfold ordP; rw [HOUT.out, ← HN.out]
      go_wp2_with fail
      go_ret
      exact ⟨⟨_, rfl, by rw [HP.out, HOL.out]; exact HOWN.out⟩, HBW.out⟩
end Go.Proofs.Yteccpmmedpkddaa
