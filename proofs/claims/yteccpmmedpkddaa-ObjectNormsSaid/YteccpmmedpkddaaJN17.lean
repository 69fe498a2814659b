/-
  Numbered symbols: sorted they are in order.
-/
import Derived.Test.YteccpmmedpkddaaJN12
import Derived.Test.YteccpmmedpkddaaJN16
namespace Go.Proofs.Yteccpmmedpkddaa
open Go.RowKit Go.Lib Go.Sort
variable {W w w' : World} {B k : Nat} {secs : List Sc} {sv yv lv pv : Value} {Y : List Sy} {P : List Nat} {g lT lsz ln : Nat} {lcs : List Value}
def Nm.cells (x : Sy × Nat) : List Value := [.string x.1.name, .int .i64 x.1.sec, .int .i64 x.1.val, .bool x.1.glob, nat64 x.2]
theorem ENum : Elem Try.prog 76 78 5 48 (.agg #[.string ⟨#[]⟩, .int .i64 0, .int .i64 0, .bool false, .int .i64 0]) := Elem.mk' Try.underlying76 (by kernel_rfl) rfl (by decide)
theorem nm_ones (x : Sy × Nat) : ∀ u ∈ Nm.cells x, u.oneCell' = true := fun u hu => by
  simp [Nm.cells, nat64] at hu
  rcases hu with rfl | rfl | rfl | rfl | rfl <;> rfl
theorem order_grow (a b : Sy) (w : World) : Calls Try.prog 39 #[.agg a.cells.toArray, .agg b.cells.toArray] w fun e w' => e = .returned (.int .i64 (orderP a b)) ∧ ∃ q os', w' = grow (w.drewN q) os' := by
  unfold orderP
  obtain ⟨an, asec, av, ag⟩ := a
  obtain ⟨bn, bsec, bv, bg⟩ := b
  show Calls Try.prog 39 #[.agg #[.string an, .int .i64 asec, .int .i64 av, .bool ag], .agg #[.string bn, .int .i64 bsec, .int .i64 bv, .bool bg]] w _
  cases ag <;> cases bg
  all_goals
    go_enter Try.func39, Try.ntmps39
    go_wp2_with (go_at_call 65; refine (Try.strings_Compare _ _ _).mono ?_; rintro e w' ⟨rfl, rfl⟩)
    go_ret
    exact ⟨ret_int rfl, 0, _, by rw [alloc_eq_grow, alloc_eq_grow, grow_grow]; rfl⟩
theorem norm1_any (a b : Sy × Nat) (w : World) : Calls Try.prog 53 #[.agg (Nm.cells a).toArray, .agg (Nm.cells b).toArray] w fun e w' => e = .returned (.int .i64 (orderP a.1 b.1)) ∧ ∃ q os', w' = grow (w.drewN q) os' := by
  obtain ⟨a, an⟩ := a
  obtain ⟨b, bn⟩ := b
  have HO := hid (fun w => order_grow a b w)
  unfold Sy.cells at HO
  obtain ⟨W2, hW2⟩ : ∃ W2, W2 = (w.alloc (.cells #[.string a.name, .int .i64 a.sec, .int .i64 a.val, .bool a.glob, .int .i64 (an : Int)] 78)).alloc (.cells #[.string b.name, .int .i64 b.sec, .int .i64 b.val, .bool b.glob, .int .i64 (bn : Int)] 78) := ⟨_, rfl⟩
  have HW2 := hid hW2
  have hy1 : W2.heap[w.heap.size]? = some (.cells #[.string a.name, .int .i64 a.sec, .int .i64 a.val, .bool a.glob, .int .i64 (an : Int)] 78 (0, 0)) := by rw [hW2]; exact (Below.heap_alloc _ _ _ (by simp)).trans (heap_alloc_new _ _)
  have hy2 : W2.heap[w.heap.size + 1]? = some (.cells #[.string b.name, .int .i64 b.sec, .int .i64 b.val, .bool b.glob, .int .i64 (bn : Int)] 78 (0, 0)) := by
    have := heap_alloc_new (w.alloc (.cells #[.string a.name, .int .i64 a.sec, .int .i64 a.val, .bool a.glob, .int .i64 (an : Int)] 78)) (.cells #[.string b.name, .int .i64 b.sec, .int .i64 b.val, .bool b.glob, .int .i64 (bn : Int)] 78)
    rw [World.size_alloc] at this
    rw [hW2]; exact this
  have c0 := cell_of_row _ _ 0 _ _ _ hy1
  have c1 := cell_of_row _ _ 1 _ _ _ hy1
  have c2 := cell_of_row _ _ 2 _ _ _ hy1
  have c3 := cell_of_row _ _ 3 _ _ _ hy1
  have d0 := cell_of_row _ _ 0 _ _ _ hy2
  have d1 := cell_of_row _ _ 1 _ _ _ hy2
  have d2 := cell_of_row _ _ 2 _ _ _ hy2
  have d3 := cell_of_row _ _ 3 _ _ _ hy2
  simp only [List.getElem?_toArray, List.getElem?_cons_zero, List.getElem?_cons_succ] at c0 c1 c2 c3 d0 d1 d2 d3
  obtain ⟨r, hr⟩ : ∃ r, r = orderP a b := ⟨_, rfl⟩
  have HR := hid hr
  rw [← hr] at HO
  show Calls Try.prog 53 #[.agg #[.string a.name, .int .i64 a.sec, .int .i64 a.val, .bool a.glob, .int .i64 (an : Int)], .agg #[.string b.name, .int .i64 b.sec, .int .i64 b.val, .bool b.glob, .int .i64 (bn : Int)]] w _
  clear hW2 hy1 hy2 hr
  go_enter Try.func53, Try.ntmps53
  go_upto_region 1 with (fail)
  rw [← HW2.out]
  go_wp2_with (go_at_call 39; go_loud ((with_reducible refine (HO.out _).mono ?_); rintro e w3 ⟨rfl, q, os', rfl⟩))
  go_ret
  refine ⟨by rw [← HR.out]; rfl, q, #[.cells #[.string a.name, .int .i64 a.sec, .int .i64 a.val, .bool a.glob, .int .i64 (an : Int)] 78, .cells #[.string b.name, .int .i64 b.sec, .int .i64 b.val, .bool b.glob, .int .i64 (bn : Int)] 78] ++ os', ?_⟩
  rw [HW2.out, ← grow_grow]
  rfl
/-- The symbols, numbered. -/
def numb (l : List Sy) : List (Sy × Nat) := l.zipIdx
theorem numb_at (l : List Sy) {x : Sy × Nat} (h : x ∈ numb l) : x.1 = atSy l x.2 ∧ x.2 < l.length := by
  obtain ⟨i, hi, rfl⟩ := List.getElem_of_mem h
  unfold numb at hi ⊢
  have hil : i < l.length := by simpa using hi
  rw [List.getElem_zipIdx]
  simp [atSy, List.getD_eq_getElem?_getD, hil]
theorem stable_ord (l : List Sy) {z : List (Sy × Nat)} (h : StableOf (fun a b : Sy × Nat => aheadP a.1 b.1) (numb l) z) : z = (ordP l).map (fun q => (atSy l q, q)) := by
  obtain ⟨y, hp, hs, rfl⟩ := h
  have hy : ∀ x ∈ y, x.1.1 = atSy l x.1.2 ∧ x.2 = x.1.2 ∧ x.1.2 < l.length := fun x hx => by
    have hm := hp.subset hx
    obtain ⟨i, hi, rfl⟩ := List.getElem_of_mem hm
    rw [List.getElem_zipIdx]
    have hil : i < l.length := by simpa [numb] using hi
    have e : (numb l)[i]'(by simpa [numb] using hil) = (l[i], i) := by unfold numb; rw [List.getElem_zipIdx]; simp
    simp only [Nat.zero_add]
    rw [e]
    simp [atSy, List.getD_eq_getElem?_getD, hil]
  have hzp : (y.map (fun x => x.1.2)).Perm (List.range l.length) := by
    have h1 := hp.map (fun x : (Sy × Nat) × Nat => x.1.2)
    have h2 : ((numb l).zipIdx.map (fun x : (Sy × Nat) × Nat => x.1.2)) = List.range l.length := by
      refine List.ext_getElem (by simp [numb]) fun i h1 h2 => ?_
      have hil : i < l.length := by simpa using h2
      rw [List.getElem_map, List.getElem_zipIdx]
      simp [numb]
    rw [h2] at h1; exact h1
  have hzs : Srt (noR l) (y.map (fun x => x.1.2)) := by
    unfold Srt
    rw [List.pairwise_map]
    have : y.Pairwise (fun a b => a ∈ y ∧ b ∈ y ∧ lexR (fun a b : (Sy × Nat) × Nat => aheadP a.1.1 b.1.1) Prod.snd b a = false) := by
      rw [List.pairwise_iff_getElem]
      intro i j hi hj hij
      exact ⟨List.getElem_mem _, List.getElem_mem _, List.pairwise_iff_getElem.1 hs i j hi hj hij⟩
    refine this.imp fun {a b} ⟨ha, hb, hab⟩ => ?_
    obtain ⟨a1, a2, _⟩ := hy a ha
    obtain ⟨b1, b2, _⟩ := hy b hb
    unfold lexR at hab
    unfold noR lexR
    dsimp only [id] at hab ⊢
    rw [a1, b1, a2, b2] at hab
    exact hab
  have hz := ordP_one l hzp hzs
  rw [← hz, List.map_map]
  refine List.map_congr_left fun x hx => ?_
  obtain ⟨h1, _, _⟩ := hy x hx
  show x.1 = (atSy l x.1.2, x.1.2)
  rw [← h1]
/-- The sort, on a row of the call's own. -/
theorem sortN_any (l : List Sy) {base : Nat} {v : Value} {w : World} (h : w.ownsRow base 78 5 v l.length ((numb l).flatMap Nm.cells)) (hl : l.length ≤ 100000) :
    Calls Try.prog 52 #[v, .func (.func 53) #[] #[]] w fun e w' => e = .returned (.tuple #[]) ∧ w'.ownsRow base 78 5 v l.length (((ordP l).map (fun q => (atSy l q, q))).flatMap Nm.cells) ∧ w.grownBy w' v.ownBlock := by
  have hlen : (numb l).length = l.length := by simp [numb]
  rw [← hlen] at h
  have hlt : (ltOf fun a b : Sy × Nat => orderP a.1 b.1) = fun a b : Sy × Nat => aheadP a.1 b.1 := by
    funext a b
    have := congrFun (congrFun ltOf_order a.1) b.1
    exact this
  refine (sortStable_own (β := Sy × Nat) (k := 5) Try.isAgg78 Try.sizeOf78 Nm.cells (fun _ => rfl) nm_ones (fun a b => orderP a.1 b.1) (by rw [hlt]; exact ⟨fun x => swo_ahead.irrefl _, fun x y z => swo_ahead.trans _ _ _, fun x y z => swo_ahead.ntrans _ _ _⟩) 53 #[] (enters_of Try.func53 (by kernel_rfl) rfl) h (by rw [hlen]; omega) (fun w' _ x y => norm1_any x y w')).mono ?_
  rintro e w' ⟨rfl, l', hst, ho, hg⟩
  rw [hlt] at hst
  rw [stable_ord l hst, hlen] at ho
  exact ⟨rfl, ho, hg⟩
end Go.Proofs.Yteccpmmedpkddaa
