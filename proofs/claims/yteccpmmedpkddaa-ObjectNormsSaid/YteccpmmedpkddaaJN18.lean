/-
  The code's Norm.
-/
import Derived.Test.YteccpmmedpkddaaJN17
namespace Go.Proofs.Yteccpmmedpkddaa
open Go.RowKit
variable {W w w' : World} {B k : Nat} {secs : List Sc} {sv yv lv pv : Value} {Y : List Sy} {P : List Nat} {g lT lsz ln : Nat} {lcs : List Value}
def zeroN : Sy × Nat := (⟨⟨#[]⟩, 0, 0, false⟩, 0)
theorem made_num (n : Nat) : (madeCells (.agg #[.string ⟨#[]⟩, .int .i64 0, .int .i64 0, .bool false, .int .i64 0] : Value).cells (n * 5)).toList = (List.replicate n zeroN).flatMap Nm.cells := by
  refine List.ext_getElem (by rw [flat_len Nm.cells 5 (fun _ => rfl)]; simp [madeCells, Nat.mul_comm]) fun i h1 h2 => ?_
  have hl : ((List.replicate n zeroN).flatMap Nm.cells).length = 5 * n := by rw [flat_len Nm.cells 5 (fun _ => rfl)]; simp
  have hi : i < 5 * n := by omega
  have hq : i / 5 < (List.replicate n zeroN).length := by simp; omega
  have e := flat_get Nm.cells 5 (fun _ => rfl) (List.replicate n zeroN) (i / 5) hq (i % 5) (Nat.mod_lt _ (by decide))
  rw [Nat.div_add_mod, List.getElem?_eq_getElem h2, List.getElem_replicate] at e
  have hm : i % 5 < 5 := Nat.mod_lt _ (by decide)
  have e2 : (madeCells (.agg #[.string ⟨#[]⟩, .int .i64 0, .int .i64 0, .bool false, .int .i64 0] : Value).cells (n * 5)).toList[i] = (#[Value.string ⟨#[]⟩, .int .i64 0, .int .i64 0, .bool false, .int .i64 0] : Array Value)[i % 5]! := by
    simp [madeCells, Value.cells]
  rw [e2]
  refine Option.some.inj (Eq.trans ?_ e.symm)
  rcases (show i % 5 = 0 ∨ i % 5 = 1 ∨ i % 5 = 2 ∨ i % 5 = 3 ∨ i % 5 = 4 by omega) with h | h | h | h | h <;> rw [h] <;> rfl
theorem nm_cells {w : World} {b : Nat} {ys : List (Sy × Nat)} {base n c : Nat} (h : w.ownsRow base 78 5 (.slice (some ⟨b, 0, none⟩) n c) n (ys.flatMap Nm.cells)) (k : Nat) (hk : k < ys.length) :
    w.cell? ⟨b, k * 5, none⟩ = some (.string ys[k].1.name) ∧ w.cell? ⟨b, k * 5 + 1, none⟩ = some (.int .i64 ys[k].1.sec) ∧ w.cell? ⟨b, k * 5 + 2, none⟩ = some (.int .i64 ys[k].1.val) ∧ w.cell? ⟨b, k * 5 + 3, none⟩ = some (.bool ys[k].1.glob) ∧ w.cell? ⟨b, k * 5 + 4, none⟩ = some (nat64 ys[k].2) := by
  have each : ∀ j (hj : j < 5), w.cell? ⟨b, k * 5 + j, none⟩ = (Nm.cells ys[k])[j]? := fun j hj => by
    have hl := flat_len Nm.cells 5 (fun _ => rfl) ys
    rw [show k * 5 + j = 5 * k + j from by omega]
    rw [(own_cell h (5 * k + j) (by omega)).1, ← flat_get Nm.cells 5 (fun _ => rfl) ys k hk j hj]
    exact (List.getElem?_eq_getElem (by omega)).symm
  exact ⟨each 0 (by omega), each 1 (by omega), each 2 (by omega), each 3 (by omega), each 4 (by omega)⟩
/-- A number and its symbol are stored. -/
theorem NmA.setL {gl m cl : Nat} {L : List (Sy × Nat)} (h : NmA B W g 78 5 m (L.flatMap Nm.cells) sv yv (.slice (some ⟨gl, 0, none⟩) m cl) pv secs Y P w) (hm : m = L.length) {i : Nat} (hi : i < L.length) (x : Sy × Nat) :
    NmA B W g 78 5 m ((L.set i x).flatMap Nm.cells) sv yv (.slice (some ⟨gl, 0, none⟩) m cl) pv secs Y P (((((w.setCell ⟨gl, i * 5, none⟩ (.string x.1.name)).setCell ⟨gl, i * 5 + 1, none⟩ (.int .i64 x.1.sec)).setCell ⟨gl, i * 5 + 2, none⟩ (.int .i64 x.1.val)).setCell ⟨gl, i * 5 + 3, none⟩ (.bool x.1.glob)).setCell ⟨gl, i * 5 + 4, none⟩ (nat64 x.2)) := by
  obtain ⟨y, hy⟩ : ∃ y, L[i]? = some y := ⟨_, List.getElem?_eq_getElem hi⟩
  have h1 := World.ownsRow.stored h.lr (i * 5) (.string x.1.name)
  have h2 := World.ownsRow.stored h1.1 (i * 5 + 1) (.int .i64 x.1.sec)
  have h3 := World.ownsRow.stored h2.1 (i * 5 + 2) (.int .i64 x.1.val)
  have h4 := World.ownsRow.stored h3.1 (i * 5 + 3) (.bool x.1.glob)
  have h5 := World.ownsRow.stored h4.1 (i * 5 + 4) (nat64 x.2)
  have hg := (((h1.2.trans h2.2).trans h3.2).trans h4.2).trans h5.2
  have ht := own_tag h.lr rfl
  have hl : Lies B isO w _ := Lies.grown hg (fun a e => by cases e; exact ⟨ht, own_ge h.lr gl rfl⟩) (by unfold isO; decide) h.sz
  refine ⟨h.fr.lies hl, (hg.block g (Array.getElem?_eq_some_iff.1 h.box).1 (fun e => h.box_ne ht (by decide) (by cases e; rfl))).trans h.box, ?_, h.pr.kept hg ?_, h.ap, h.gB, h.b.grown hg h.sz (fun q e => by cases e; exact own_ge h.lr gl rfl), h.WB, h.lt⟩
  · have e1 := set_flat Nm.cells 5 (fun _ => rfl) L i 0 y (.string x.1.name) hy (by decide) ({ y.1 with name := x.1.name }, y.2) rfl
    have y1 : (L.set i ({ y.1 with name := x.1.name }, y.2))[i]? = some ({ y.1 with name := x.1.name }, y.2) := List.getElem?_set_self hi
    have e2 := set_flat Nm.cells 5 (fun _ => rfl) _ i 1 _ (.int .i64 x.1.sec) y1 (by decide) ({ y.1 with name := x.1.name, sec := x.1.sec }, y.2) rfl
    rw [List.set_set] at e2
    have y2 : (L.set i ({ y.1 with name := x.1.name, sec := x.1.sec }, y.2))[i]? = some ({ y.1 with name := x.1.name, sec := x.1.sec }, y.2) := List.getElem?_set_self hi
    have e3 := set_flat Nm.cells 5 (fun _ => rfl) _ i 2 _ (.int .i64 x.1.val) y2 (by decide) ({ y.1 with name := x.1.name, sec := x.1.sec, val := x.1.val }, y.2) rfl
    rw [List.set_set] at e3
    have y3 : (L.set i ({ y.1 with name := x.1.name, sec := x.1.sec, val := x.1.val }, y.2))[i]? = some ({ y.1 with name := x.1.name, sec := x.1.sec, val := x.1.val }, y.2) := List.getElem?_set_self hi
    have e4 := set_flat Nm.cells 5 (fun _ => rfl) _ i 3 _ (.bool x.1.glob) y3 (by decide) (x.1, y.2) rfl
    rw [List.set_set] at e4
    have y4 : (L.set i (x.1, y.2))[i]? = some (x.1, y.2) := List.getElem?_set_self hi
    have e5 := set_flat Nm.cells 5 (fun _ => rfl) _ i 4 _ (nat64 x.2) y4 (by decide) x rfl
    rw [List.set_set] at e5
    have := h5.1
    rw [show i * 5 = i * 5 + 0 from rfl, e1, e2, e3, e4, e5] at this
    exact this
  · cases e : pv.ownBlock with
    | none => exact .inl rfl
    | some q => exact .inr (fun e2 => tag_ne (own_tag h.pr e) ht (by decide) (by cases e2; rfl))
/-- The row that is read has been turned. -/
theorem NmA.sorted {lcs' : List Value} (h : NmA B W g 78 lsz ln lcs sv yv lv pv secs Y P w) (ho : w'.ownsRow B 78 lsz lv ln lcs') (hg : w.grownBy w' lv.ownBlock) : NmA B W g 78 lsz ln lcs' sv yv lv pv secs Y P w' := by
  have hl : Lies B isO w w' := Lies.grown hg (fun a e => ⟨own_tag h.lr e, own_ge h.lr a e⟩) (by unfold isO; decide) h.sz
  refine ⟨h.fr.lies hl, (hg.block g (Array.getElem?_eq_some_iff.1 h.box).1 (fun e => h.box_ne (own_tag h.lr e.symm) (by decide) rfl)).trans h.box, ho, own_kept h.pr hg h.ap.symm, h.ap, h.gB, h.b.grown hg h.sz (fun q e => own_ge h.lr q e), h.WB, h.lt⟩
/-- The numbers' places are made. -/
theorem NmA.withP {n : Nat} (h : NmA B W g lT lsz ln lcs sv yv lv pv secs Y P w) {gp : Nat} (hgp : gp = w.heap.size) (ho : w'.ownsRow w.heap.size 3 1 (.slice (some ⟨gp, 0, none⟩) n n) n ((List.replicate n 0).map nat64)) (hg : w.grownBy w' none) : NmA B W g lT lsz ln lcs sv yv lv (.slice (some ⟨gp, 0, none⟩) n n) secs Y (List.replicate n 0) w' := by
  have h2 := h.below (below_none hg)
  refine ⟨h2.fr, h2.box, h2.lr, ?_, fun q e e2 => ?_, h2.gB, h2.b, h2.WB, h2.lt⟩
  · have := own_base ho h.sz
    simpa using this
  · have a := own_lt h.lr q e
    have e3 : gp = q := Option.some.inj e2
    omega
set_option maxRecDepth 40000 in
set_option maxHeartbeats 16000000 in
theorem norm_any (o : Ob) (W : World) (ho : o.rd W) (hn0 : o.secs.length ≤ 100000) (hm0 : o.syms.length ≤ 100000) : Calls Try.prog 27 #[.agg o.cells.toArray] W (NormT W o.con) := by
  have HO := hid ho
  obtain ⟨n, hn⟩ : ∃ n, n = o.secs.length := ⟨_, rfl⟩
  obtain ⟨m, hm⟩ : ∃ n, n = o.syms.length := ⟨_, rfl⟩
  have HN := hid (And.intro hn hm)
  obtain ⟨W1, hW1⟩ : ∃ W1, W1 = W.alloc (.cells o.cells.toArray 25) := ⟨_, rfl⟩
  obtain ⟨W2, hW2⟩ : ∃ W2, W2 = W1.alloc (.cells #[.slice none 0 0, .slice none 0 0] 25) := ⟨_, rfl⟩
  have hz1 : W1.heap.size = W.heap.size + 1 := by rw [hW1]; simp
  have hz2 : W2.heap.size = W.heap.size + 1 + 1 := by rw [hW2]; simp [hz1]
  have hb2 : Below W.heap.size W W2 := by rw [hW2, hW1]; exact ((Below.refl _ _).alloc (Nat.le_refl _) _).alloc (by simp) _
  have hy1 : W2.heap[W.heap.size]? = some (.cells o.cells.toArray 25 (0, 0)) := by rw [hW2, hW1]; exact (Below.heap_alloc _ _ _ (by simp)).trans (heap_alloc_new _ _)
  have hy2 : W2.heap[W.heap.size + 1]? = some (.cells #[.slice none 0 0, .slice none 0 0] 25 (0, 0)) := by
    have := heap_alloc_new W1 (.cells #[.slice none 0 0, .slice none 0 0] 25)
    rw [hz1] at this
    rw [hW2]; exact this
  have HY := hid (And.intro hy1 hy2)
  have HC : Hid (∀ w', Below W2.heap.size W2 w' → w'.cell? ⟨W.heap.size, 0, none⟩ = some (.slice o.sp n o.sc) ∧ w'.cell? ⟨W.heap.size, 1, none⟩ = some (.slice o.yp m o.yc)) := fun w' hw => by
    rw [hn, hm]; exact obx_cells ((hw.block _ (by omega)).trans hy1)
  have HB2 := hid hb2
  have HBB : Hid (∀ w', Below W2.heap.size W2 w' → Below W.heap.size W w') := fun w' h => hb2.trans (h.mono hb2.size)
  have HZ := hid hz2
  have HW1 := hid hW1
  have HW2 := hid hW2
  have HCL : Hid (Calls Try.prog 28 #[.agg #[.slice o.sp n o.sc, .slice o.yp m o.yc]] W2 (CloR W2 o)) := by
    have := (clone_any o W2 (ho.below hb2) hn0 hm0).mono fun e w' h => h.r
    rw [hn, hm]; exact this
  rw [← hn] at hn0
  rw [← hm] at hm0
  unfold Ob.cells at HW1
  rw [← hn, ← hm] at HW1
  show Calls Try.prog 27 #[.agg #[.slice o.sp o.secs.length o.sc, .slice o.yp o.syms.length o.yc]] W _
  rw [← hn, ← hm]
  obtain ⟨c0, c1⟩ := HC.out W2 (Below.refl _ _)
  clear ho hn hm hW1 hW2 hb2 hy1 hy2 hz1 hz2
  go_enter Try.func27, Try.ntmps27
  go_upto_region 1 with (fail)
  rw [← HW1.out, ← HW2.out]
  go_upto_region 2 with (go_at_call 28; go_loud ((with_reducible refine HCL.out.mono ?_); rintro e w3 ⟨⟨sv, yv, secs, rfl, hf3, hc3⟩, hb3⟩; obtain ⟨sp3, sc3, rfl, -⟩ := own_shape hf3.os; obtain ⟨yp3, yc3, rfl, -⟩ := own_shape hf3.oy; have hls : secs.length = n := (by rw [HN.out.1]; simpa using con_len hc3); have HLS := hid hls; have HF3 := hid hf3; have HC3 := hid hc3; have HB3 := hid hb3; rw [hls, ← HN.out.2]; clear hf3 hc3 hb3 hls))
  obtain ⟨w4, hw4⟩ : ∃ w4, w4 = w3.alloc (.cells #[.slice sp3 n sc3, .slice yp3 m yc3] 25) := ⟨_, rfl⟩
  obtain ⟨g, hg⟩ : ∃ g, g = w3.heap.size := ⟨_, rfl⟩
  have hb34 : Below w3.heap.size w3 w4 := by rw [hw4]; exact (of_alloc rfl).1
  have hx4 : w4.heap[g]? = some (.cells #[.slice sp3 n sc3, .slice yp3 m yc3] 25 (0, 0)) := by rw [hg, hw4]; exact heap_alloc_new _ _
  have hb4 : Below W2.heap.size W2 w4 := HB3.out.trans (hb34.mono HB3.out.size)
  have HF4 : Hid (FrV W2.heap.size w4 (.slice sp3 n sc3) (.slice yp3 m yc3) secs o.syms secs.length) := by
    have := HF3.out.below HB3.out.size hb34
    rw [HLS.out, ← HN.out.2] at this
    show FrV _ _ _ _ _ _ _
    rw [HLS.out]; exact this
  have HX4 := hid hx4
  have HB4 := hid hb4
  have hgW : W2.heap.size ≤ g := by rw [hg]; exact HB3.out.size
  have hgl : g < w4.heap.size := (Array.getElem?_eq_some_iff.1 hx4).1
  obtain ⟨c0', c1'⟩ := HC.out w4 hb4
  rw [← hw4, ← hg]
  have HGW := hid hgW
  clear hw4 hg hb34 hx4 hb4 c0 c1 hgW
  obtain ⟨ps, hps⟩ : ∃ ps, ps = ordP o.syms := ⟨_, rfl⟩
  have hpl : ps.length = m := by rw [hps, ordP_len, ← HN.out.2]
  have HPS := hid hps
  have HPL := hid hpl
  clear hps hpl
  go_upto_region 3 with ((with_reducible show wpList _ _ _ (⟨some 18, _, _, _, _, _⟩ :: _) _ _); go_loud (refine wpList_mkfull ENum rfl _ _ rfl w4.heap.size _ _ _ _ m rfl rfl rfl rfl (by omega) (by unfold maxLen; omega) (Nat.le_refl _) ?_); intro w5 ho5 hg5; rw [made_num] at ho5; have HO5 := hid ho5; have HG5 := hid hg5; clear ho5 hg5)
  obtain ⟨gl, hgl2⟩ : ∃ gl, gl = w4.heap.size := ⟨_, rfl⟩
  have hb45 : Below w4.heap.size w4 w5 := below_none HG5.out
  have h5 : NmA W2.heap.size W2 g 78 5 m (((numb o.syms).take 0 ++ (List.replicate m zeroN).drop 0).flatMap Nm.cells) (.slice sp3 n sc3) (.slice yp3 m yc3) (.slice (some ⟨gl, 0, none⟩) m m) (.slice none 0 0) secs o.syms [] w5 := by
    refine ⟨HF4.out.below HB4.out.size hb45, (hb45.block _ hgl).trans HX4.out, ?_, World.ownsRow_nil _ _ _ _, (fun q e e2 => by cases e2), HGW.out, HB4.out.trans (hb45.mono HB4.out.size), rfl, by decide⟩
    have := own_base HO5.out HB4.out.size
    rw [← hgl2] at this
    simpa using this
  have H5 := hid h5
  obtain ⟨c0, c1⟩ := HC.out w5 h5.b
  rw [← hgl2]
  clear h5 hb45 hgl2 c0' c1' hgl
  go_wp2_with (fail)
  go_loopw [22] (fun i wr => ∃ (k : Nat), k ≤ m ∧ i = .int .i64 k ∧ Aside (NmA W2.heap.size W2 g 78 5 m (((numb o.syms).take k ++ (List.replicate m zeroN).drop k).flatMap Nm.cells) (.slice sp3 n sc3) (.slice yp3 m yc3) (.slice (some ⟨gl, 0, none⟩) m m) (.slice none 0 0) secs o.syms [] wr)) (fun i _ => m - (intOf i).toNat)
  case atStart => exact ⟨0, by omega, rfl, H5.out⟩
  case round =>
    clear c0 c1
    rename World => wr
    obtain ⟨k, hk, rfl, hrr⟩ := hrel
    have HI := hid hrr.out
    clear hrr
    by_cases hlt : k < m
    · have hkI : (k : Int) < m := by omega
      have hko : k < o.syms.length := by rw [← HN.out.2]; exact hlt
      obtain ⟨b, off, hyp, -, -⟩ := HO.out.syms.at (by rw [flat_len Sy.cells 4 (fun _ => rfl)]; omega)
      have hsr := HO.out.syms.below (HBB.out _ HI.out.b)
      rw [hyp] at hsr ⊢
      obtain ⟨y0, y1, y2, y3⟩ := sy_cells hsr k hko
      have hLl : ((numb o.syms).take k ++ (List.replicate m zeroN).drop k).length = m := by simp [numb]; have := HN.out.2; omega
      have HLL := hid hLl
      have hnk : (numb o.syms)[k]? = some (o.syms[k], k) := by unfold numb; simp [hko]
      have HNX : Hid (((numb o.syms).take k ++ (List.replicate m zeroN).drop k).set k (o.syms[k], k) = (numb o.syms).take (k + 1) ++ (List.replicate m zeroN).drop (k + 1)) := by
        obtain ⟨h1, h2⟩ := List.getElem?_eq_some_iff.1 hnk
        have := put_at (numb o.syms) (List.replicate m zeroN) k (by simp [numb]; exact HN.out.2.symm) h1
        show _ = _
        rw [← this, h2]
      generalize o.syms[k] = s at *
      obtain ⟨sn, ss, sval, sg⟩ := s
      dsimp only at y0 y1 y2 y3
      obtain ⟨w6, hw6⟩ : ∃ w6, w6 = wr.alloc (.cells #[.string sn, .int .i64 ss, .int .i64 sval, .bool sg] 36) := ⟨_, rfl⟩
      have hx6 : w6.heap[wr.heap.size]? = some (.cells #[.string sn, .int .i64 ss, .int .i64 sval, .bool sg] 36 (0, 0)) := by rw [hw6]; exact heap_alloc_new _ _
      have h6 := HI.out.below (w' := w6) (by rw [hw6]; exact (of_alloc rfl).1)
      have u0 := cell_of_row _ _ 0 _ _ _ hx6
      have u1 := cell_of_row _ _ 1 _ _ _ hx6
      have u2 := cell_of_row _ _ 2 _ _ _ hx6
      have u3 := cell_of_row _ _ 3 _ _ _ hx6
      simp only [List.getElem?_toArray, List.getElem?_cons_zero, List.getElem?_cons_succ] at u0 u1 u2 u3
      have hlr := h6.lr
      have hYc : ∀ j, j < 5 → ∃ v, w6.cell? ⟨gl, k * 5 + j, none⟩ = some v := fun j hj => by
        have := own_cell hlr (k * 5 + j) (by rw [flat_len Nm.cells 5 (fun _ => rfl), hLl]; omega)
        exact ⟨_, this.1⟩
      obtain ⟨v0, z0⟩ := hYc 0 (by decide)
      obtain ⟨v1, z1⟩ := hYc 1 (by decide)
      obtain ⟨v2, z2⟩ := hYc 2 (by decide)
      obtain ⟨v3, z3⟩ := hYc 3 (by decide)
      obtain ⟨v4, z4⟩ := hYc 4 (by decide)
      rw [Nat.add_zero] at z0
      have zf := fun j => World.ownsRow.frozenAt hlr j
      have zf0 := zf (k * 5)
      have zf1 := zf (k * 5 + 1)
      have zf2 := zf (k * 5 + 2)
      have zf3 := zf (k * 5 + 3)
      have zf4 := zf (k * 5 + 4)
      have hset := h6.setL hLl.symm (i := k) (by rw [hLl]; exact hlt) (⟨sn, ss, sval, sg⟩, k)
      rw [HNX.out] at hset
      have HSET := hid hset
      have HW6 := hid hw6
      clear hsr hLl hnk hw6 hx6 h6 hlr hYc zf hset
      go_upto_region 6 with (fail)
      rw [← HW6.out]
      clear y0 y1 y2 y3
      go_wp2_with fail
      exact ⟨⟨k + 1, by omega, by go_num, HSET.out⟩, by simp [intOf]; omega⟩
    · have hke : k = m := by omega
      subst hke
      have hnL : (numb o.syms).take k ++ (List.replicate k zeroN).drop k = numb o.syms := by
        rw [List.take_of_length_le (by simp [numb]; have := HN.out.2; omega), List.drop_eq_nil_of_le (by simp), List.append_nil]
      have h1 : NmA W2.heap.size W2 g 78 5 k ((numb o.syms).flatMap Nm.cells) (.slice sp3 n sc3) (.slice yp3 k yc3) (.slice (some ⟨gl, 0, none⟩) k k) (.slice none 0 0) secs o.syms [] wr := by have := HI.out; rw [hnL] at this; exact this
      have H1 := hid h1
      have HSO : Hid (Calls Try.prog 52 #[.slice (some ⟨gl, 0, none⟩) k k, .func (.func 53) #[] #[]] wr fun e w' => e = .returned (.tuple #[]) ∧ w'.ownsRow W2.heap.size 78 5 (.slice (some ⟨gl, 0, none⟩) k k) k ((ps.map (fun q => (atSy o.syms q, q))).flatMap Nm.cells) ∧ wr.grownBy w' (some gl)) := by
        have hlr := h1.lr
        have := sortN_any o.syms (base := W2.heap.size) (v := .slice (some ⟨gl, 0, none⟩) k k) (w := wr) (by rw [← HN.out.2]; exact hlr) (by rw [← HN.out.2]; exact hm0)
        rw [← HN.out.2, ← HPS.out] at this
        exact this
      clear h1 hnL
      go_upto_region 9 with (go_at_call 52; go_loud ((with_reducible refine HSO.out.mono ?_); rintro e w7 ⟨rfl, ho7, hg7⟩; have H7 := hid (H1.out.sorted ho7 hg7); clear ho7 hg7))
      go_upto_region 10 with ((with_reducible show wpList _ _ _ (⟨some 38, _, _, _, _, _⟩ :: _) _ _); go_loud (refine wpList_mkfull EInt rfl _ _ rfl w7.heap.size _ _ _ _ k rfl rfl rfl rfl (by omega) (by unfold maxLen; omega) (Nat.le_refl _) ?_); intro w8 ho8 hg8; rw [made_nat] at ho8; have HO8 := hid ho8; have HG8 := hid hg8; clear ho8 hg8)
      obtain ⟨pg, hpg⟩ : ∃ pg, pg = w7.heap.size := ⟨_, rfl⟩
      have h8 : NmA W2.heap.size W2 g 78 5 k ((ps.map (fun q => (atSy o.syms q, q))).flatMap Nm.cells) (.slice sp3 n sc3) (.slice yp3 k yc3) (.slice (some ⟨gl, 0, none⟩) k k) (.slice (some ⟨pg, 0, none⟩) k k) secs ((nsyms o.syms).take 0 ++ o.syms.drop 0) (List.replicate k 0) w8 := by
        have := H7.out.withP hpg (by rw [hpg]; exact HO8.out) HG8.out
        simpa using this
      have H8 := hid h8
      have HP8 : Hid (PlOk ps 0 (List.replicate k 0)) := by show PlOk _ _ _; rw [← HPL.out]; exact PlOk.zero ps
      rw [← hpg]
      clear h8 hpg
      obtain ⟨m, hm⟩ : ∃ m, m = k := ⟨_, rfl⟩
      subst hm
      go_wp2_with (fail)
      go_loopw [41] (fun i wr => ∃ (k : Nat) (P : List Nat), k ≤ m ∧ i = .int .i64 k ∧ Aside (NmA W2.heap.size W2 g 78 5 m ((ps.map (fun q => (atSy o.syms q, q))).flatMap Nm.cells) (.slice sp3 n sc3) (.slice yp3 m yc3) (.slice (some ⟨gl, 0, none⟩) m m) (.slice (some ⟨pg, 0, none⟩) m m) secs ((nsyms o.syms).take k ++ o.syms.drop k) P wr ∧ PlOk ps k P)) (fun i _ => m - (intOf i).toNat)
      case atStart => exact ⟨0, List.replicate m 0, by omega, rfl, ⟨H8.out, HP8.out⟩⟩
      case round =>
        rename World => wr
        obtain ⟨k, P, hk, rfl, hrr⟩ := hrel
        have HI := hid hrr.out.1
        have HPK := hid hrr.out.2
        clear hrr
        by_cases hlt : k < m
        · have hkI : (k : Int) < m := by omega
          have hkp : k < ps.length := by rw [HPL.out]; exact hlt
          obtain ⟨q, hq⟩ : ∃ q, ps[k]? = some q := ⟨_, List.getElem?_eq_getElem hkp⟩
          have hqm : q < m := by
            have hmem : q ∈ ordP o.syms := by rw [← HPS.out]; exact List.mem_of_getElem? hq
            rw [HN.out.2]; exact ordP_lt _ q hmem
          have hqI : (q : Int) < m := by omega
          have hqn : ((q : Nat) : Int).toNat = q := by omega
          have hkn : ((k : Nat) : Int).toNat = k := by omega
          have hq0 : (0 : Int) ≤ (q : Int) := by omega
          obtain ⟨gy, hgy⟩ : ∃ gy, yp3 = some ⟨gy, 0, none⟩ := by
            have ho := HI.out.fr.oy
            obtain ⟨a, b, e, _⟩ := own_block ho (by have := HN.out.2; simp [nsyms_len]; omega)
            cases e; exact ⟨a, rfl⟩
          subst hgy
          have hYl : ((nsyms o.syms).take k ++ o.syms.drop k).length = m := by have := HN.out.2; simp [nsyms_len]; omega
          have hat : atSy o.syms q = o.syms[q]'(by rw [← HN.out.2]; exact hqm) := by
            have := HN.out.2
            unfold atSy; simp [List.getD_eq_getElem?_getD, show q < o.syms.length by omega]
          have HNX : Hid (((nsyms o.syms).take k ++ o.syms.drop k).set k (atSy o.syms q) = (nsyms o.syms).take (k + 1) ++ o.syms.drop (k + 1)) := by
            have hkn' : k < (nsyms o.syms).length := by rw [nsyms_len, ← HN.out.2]; exact hlt
            have e : (nsyms o.syms)[k] = atSy o.syms q := by
              have h1 : (nsyms o.syms)[k]? = some (atSy o.syms q) := by unfold nsyms; rw [List.getElem?_map, ← HPS.out, hq]; rfl
              have h2 := (List.getElem?_eq_getElem hkn').symm.trans h1
              exact Option.some.inj h2
            show _ = _
            rw [← e]; exact put_at _ _ _ (nsyms_len _) hkn'
          have HYL := hid hYl
          have hps1 : ((ps.map (fun q => (atSy o.syms q, q))) : List (Sy × Nat))[k]'(by simpa using hkp) = (atSy o.syms q, q) := by
            rw [List.getElem_map, (List.getElem?_eq_some_iff.1 hq).2]
          obtain ⟨y0, y1, y2, y3, y4⟩ := nm_cells HI.out.lr k (by simpa using hkp)
          rw [hps1] at y0 y1 y2 y3 y4
          clear hat hps1
          generalize atSy o.syms q = s at HNX y0 y1 y2 y3 y4
          obtain ⟨sn, ss, sval, sg⟩ := s
          dsimp only [nat64] at y0 y1 y2 y3 y4
          obtain ⟨w6, hw6⟩ : ∃ w6, w6 = wr.alloc (.cells #[.string sn, .int .i64 ss, .int .i64 sval, .bool sg, .int .i64 ((q : Nat) : Int)] 78) := ⟨_, rfl⟩
          have hx6 : w6.heap[wr.heap.size]? = some (.cells #[.string sn, .int .i64 ss, .int .i64 sval, .bool sg, .int .i64 ((q : Nat) : Int)] 78 (0, 0)) := by rw [hw6]; exact heap_alloc_new _ _
          have h6 := HI.out.below (w' := w6) (by rw [hw6]; exact (of_alloc rfl).1)
          have u0 := cell_of_row _ _ 0 _ _ _ hx6
          have u1 := cell_of_row _ _ 1 _ _ _ hx6
          have u2 := cell_of_row _ _ 2 _ _ _ hx6
          have u3 := cell_of_row _ _ 3 _ _ _ hx6
          have u4 := cell_of_row _ _ 4 _ _ _ hx6
          simp only [List.getElem?_toArray, List.getElem?_cons_zero, List.getElem?_cons_succ] at u0 u1 u2 u3 u4
          have hx := h6.box
          have x1 := cell_of_row _ _ 1 _ _ _ hx
          simp only [List.getElem?_toArray, List.getElem?_cons_zero, List.getElem?_cons_succ] at x1
          have hoy := h6.fr.oy
          rw [hYl] at hoy
          have hYc : ∀ j, j < 4 → ∃ v, w6.cell? ⟨gy, k * 4 + j, none⟩ = some v := fun j hj => by
            have := own_cell hoy (k * 4 + j) (by rw [flat_len Sy.cells 4 (fun _ => rfl), hYl]; omega)
            exact ⟨_, this.1⟩
          obtain ⟨v0, z0⟩ := hYc 0 (by decide)
          obtain ⟨v1, z1⟩ := hYc 1 (by decide)
          obtain ⟨v2, z2⟩ := hYc 2 (by decide)
          obtain ⟨v3, z3⟩ := hYc 3 (by decide)
          rw [Nat.add_zero] at z0
          have zf := fun j => World.ownsRow.frozenAt hoy j
          have zf0 := zf (k * 4)
          have zf1 := zf (k * 4 + 1)
          have zf2 := zf (k * 4 + 2)
          have zf3 := zf (k * 4 + 3)
          have hPl : P.length = m := by have := HPK.out.1; rw [HPL.out] at this; exact this
          have HW := h6.putY hYl.symm (i := k) (by rw [hYl]; exact hlt) ⟨sn, ss, sval, sg⟩
          have hgr := (h6.fr.putY hYl.symm h6.sz (i := k) (by rw [hYl]; exact hlt) ⟨sn, ss, sval, sg⟩).2
          have hX7 := (hgr.block wr.heap.size (Array.getElem?_eq_some_iff.1 hx6).1 (fun e => by
            have t1 := tag_row hx6
            have t2 := own_tag hoy rfl
            exact tag_ne t1 t2 (by decide) (by first | exact Option.some.inj e | exact (Option.some.inj e).symm))).trans hx6
          have HX7 := hid hX7
          rw [HNX.out] at HW
          have HWH := hid HW
          have HQQ := hid hq
          have HPLL := hid hPl
          have HW6 := hid hw6
          have HX6 := hid hx6
          have hpk := HPK.out.set (by rw [HPS.out]; exact ordP_nodup _) hq (by rw [HPL.out]; exact hqm)
          have HPK2 := hid hpk
          clear zf hYc HW hq hYl hPl hx hoy h6 hx6 hw6 hpk hgr hX7
          go_upto_region 13 with (fail)
          rw [← HW6.out]
          clear y0 y1 y2 y3 y4
          go_upto_region 14 with (fail)
          obtain ⟨w7, hw7⟩ : ∃ w7, w7 = (((w6.setCell ⟨gy, k * 4, none⟩ (.string sn)).setCell ⟨gy, k * 4 + 1, none⟩ (.int .i64 ss)).setCell ⟨gy, k * 4 + 2, none⟩ (.int .i64 sval)).setCell ⟨gy, k * 4 + 3, none⟩ (.bool sg) := ⟨_, rfl⟩
          have h7 : NmA W2.heap.size W2 g 78 5 m ((ps.map (fun q => (atSy o.syms q, q))).flatMap Nm.cells) (.slice sp3 n sc3) (.slice (some ⟨gy, 0, none⟩) m yc3) (.slice (some ⟨gl, 0, none⟩) m m) (.slice (some ⟨pg, 0, none⟩) m m) secs ((nsyms o.syms).take (k + 1) ++ o.syms.drop (k + 1)) P w7 := by
            rw [hw7]; exact HWH.out
          have hx7 : w7.heap[wr.heap.size]? = some (.cells #[.string sn, .int .i64 ss, .int .i64 sval, .bool sg, .int .i64 ((q : Nat) : Int)] 78 (0, 0)) := by rw [hw7]; exact HX7.out
          have t4 := cell_of_row _ _ 4 _ _ _ hx7
          simp only [List.getElem?_toArray, List.getElem?_cons_zero, List.getElem?_cons_succ] at t4
          have hpo := h7.pr
          rw [HPLL.out] at hpo
          have hpc := own_cell hpo q (by simp [HPLL.out]; exact hqm)
          obtain ⟨pv0, hpv0⟩ : ∃ v, w7.cell? ⟨pg, q, none⟩ = some v := ⟨_, hpc.1⟩
          have hpf := hpc.2
          have h8 := h7.setP HPLL.out.symm (q := q) (by rw [HPLL.out]; exact hqm) k
          have H8 := hid h8
          rw [← hw7]
          clear hw7 h7 hpo hpc h8 hx7 z0 z1 z2 z3 zf0 zf1 zf2 zf3 x1 u0 u1 u2 u3 u4
          go_wp2_with fail
          exact ⟨⟨k + 1, P.set q k, by omega, by go_num, ⟨H8.out, HPK2.out⟩⟩, by simp [intOf]; omega⟩
        · have hke : k = m := by omega
          subst hke
          have HYN : Hid ((nsyms o.syms).take k ++ o.syms.drop k = nsyms o.syms) := by
            show _ = _
            rw [List.take_of_length_le (by rw [nsyms_len, ← HN.out.2]; exact Nat.le_refl _), List.drop_eq_nil_of_le (by rw [← HN.out.2]; exact Nat.le_refl _), List.append_nil]
          have h1 : NmA W2.heap.size W2 g 78 5 k ((ps.map (fun q => (atSy o.syms q, q))).flatMap Nm.cells) (.slice sp3 n sc3) (.slice yp3 k yc3) (.slice (some ⟨gl, 0, none⟩) k k) (.slice (some ⟨pg, 0, none⟩) k k) secs (nsyms o.syms) P wr := by have := HI.out; rw [HYN.out] at this; exact this
          have H1 := hid h1
          have HPA : Hid (∀ q, q < o.syms.length → P[q]? = some ((ordP o.syms).idxOf q)) := fun q hq => by
            have := HPK.out
            rw [HPS.out, HN.out.2] at this
            exact this.all q hq
          have hPl : P.length = k := by have := HPK.out.1; rw [HPL.out] at this; exact this
          have HPLL := hid hPl
          have hx := HI.out.box
          have x0 := cell_of_row _ _ 0 _ _ _ hx
          have x1 := cell_of_row _ _ 1 _ _ _ hx
          simp only [List.getElem?_toArray, List.getElem?_cons_zero, List.getElem?_cons_succ] at x0 x1
          clear h1 hx hPl
          go_wp2_with fail
          go_loopw [61] (fun i wr => ∃ (j : Nat) (secs : List Sc), j ≤ n ∧ i = .int .i64 j ∧ Aside (NmA W2.heap.size W2 g 78 5 k ((ps.map (fun q => (atSy o.syms q, q))).flatMap Nm.cells) (.slice sp3 n sc3) (.slice yp3 k yc3) (.slice (some ⟨gl, 0, none⟩) k k) (.slice (some ⟨pg, 0, none⟩) k k) secs (nsyms o.syms) P wr ∧ secs.map Sc.con = mapTo (nsec o.syms) (o.secs.map Sc.con) j)) (fun i _ => n - (intOf i).toNat)
          case atStart => exact ⟨0, secs, by omega, rfl, ⟨H1.out, by rw [mapTo_zero]; exact HC3.out⟩⟩
          case round =>
            clear x0 x1
            rename World => wx
            obtain ⟨j, secs1, hj, rfl, hrr⟩ := hrel
            have HJ := hid hrr.out.1
            have HJC := hid hrr.out.2
            clear hrr
            have hx := HJ.out.box
            have x0 := cell_of_row _ _ 0 _ _ _ hx
            have x1 := cell_of_row _ _ 1 _ _ _ hx
            simp only [List.getElem?_toArray, List.getElem?_cons_zero, List.getElem?_cons_succ] at x0 x1
            have hl1 : secs1.length = n := by have := congrArg List.length HJC.out; rw [mapTo_len] at this; rw [HN.out.1]; simpa using this
            have HL1 := hid hl1
            by_cases hlt : j < n
            · have hjI : (j : Int) < n := by omega
              have hj1 : j < secs1.length := by omega
              obtain ⟨s, hs⟩ : ∃ s, secs1[j]? = some s := ⟨_, List.getElem?_eq_getElem hj1⟩
              obtain ⟨gs, hgs⟩ : ∃ gs, sp3 = some ⟨gs, 0, none⟩ := by
                obtain ⟨a, b, e, _⟩ := own_block HJ.out.fr.os (by omega)
                cases e; exact ⟨a, rfl⟩
              subst hgs
              obtain ⟨c, hc⟩ : ∃ c, (o.secs.map Sc.con)[j]? = some c := ⟨_, List.getElem?_eq_getElem (by simp; rw [← HN.out.1]; exact hlt)⟩
              have hsc : s.con = c := by
                have h1 := mapTo_get (nsec o.syms) _ hc
                rw [← HJC.out, List.getElem?_map, hs] at h1
                exact Option.some.inj h1
              have hcell : wx.cell? ⟨gs, j * 6 + 5, none⟩ = some (.slice s.rp s.rel.length s.rc) := by
                obtain ⟨_, _, e, hr⟩ := own_shape HJ.out.fr.os
                cases e
                have := (sc_cells hr j hj1).2.2.2.2.2
                rw [Nat.zero_add, (List.getElem?_eq_some_iff.1 hs).2] at this
                exact this
              have hrl : s.rel.length ≤ 4398046510976 := by
                obtain ⟨x, hx, rfl⟩ : ∃ x ∈ o.secs, x.con = c := by
                  have := List.mem_of_getElem? hc
                  obtain ⟨x, h1, h2⟩ := List.mem_map.1 this
                  exact ⟨x, h1, h2⟩
                have := (HO.out.each x hx).rcap
                have e : s.rel = x.rel := congrArg ScC.rel hsc
                rw [e]; exact this
              obtain ⟨rp, hrp⟩ : ∃ rp, rp = s.rp := ⟨_, rfl⟩
              obtain ⟨rc, hrc⟩ : ∃ rc, rc = s.rc := ⟨_, rfl⟩
              obtain ⟨R, hR⟩ : ∃ R, R = s.rel.length := ⟨_, rfl⟩
              rw [← hrp, ← hrc, ← hR] at hcell
              rw [← hR] at hrl
              have HS := hid (And.intro hs (And.intro hsc (And.intro hrp (And.intro hrc hR))))
              have HCC := hid hc
              clear hs hsc hrp hrc hR hc hx
              go_wp2_with fail
              go_loopw [71] (fun i wr => ∃ (q : Nat), q ≤ R ∧ i = .int .i64 q ∧ Aside (∃ (secs2 : List Sc) (s2 : Sc), NmA W2.heap.size W2 g 78 5 k ((ps.map (fun q => (atSy o.syms q, q))).flatMap Nm.cells) (.slice (some ⟨gs, 0, none⟩) n sc3) (.slice yp3 k yc3) (.slice (some ⟨gl, 0, none⟩) k k) (.slice (some ⟨pg, 0, none⟩) k k) secs2 (nsyms o.syms) P wr ∧ secs2[j]? = some s2 ∧ s2.rp = rp ∧ s2.rc = rc ∧ s2.con = { c with rel := mapTo (nrel o.syms) c.rel q } ∧ secs2.map Sc.con = (mapTo (nsec o.syms) (o.secs.map Sc.con) j).set j s2.con)) (fun i _ => R - (intOf i).toNat)
              case atStart => exact ⟨0, by omega, rfl, ⟨secs1, s, HJ.out, HS.out.1, HS.out.2.2.1.symm, HS.out.2.2.2.1.symm, by rw [HS.out.2.1, mapTo_zero], by rw [HS.out.2.1, set_self _ _ _ (mapTo_get _ _ HCC.out)]; exact HJC.out⟩⟩
              case round =>
                clear x0 x1 hcell
                rename World => wy
                obtain ⟨q, hq, rfl, hrr⟩ := hrel
                obtain ⟨secs2, s2, hA, hs2, hrp2, hrc2, hcon2, hcs2⟩ := hrr.out
                clear hrr
                have hRc : R = c.rel.length := by rw [HS.out.2.2.2.2, ← HS.out.2.1]; rfl
                have hrel2 : s2.rel = mapTo (nrel o.syms) c.rel q := congrArg ScC.rel hcon2
                have hR2 : s2.rel.length = R := by rw [hrel2, mapTo_len, hRc]
                by_cases hqR : q < R
                · have hqI : (q : Int) < R := by omega
                  obtain ⟨r, hr⟩ : ∃ r, c.rel[q]? = some r := ⟨_, List.getElem?_eq_getElem (by omega)⟩
                  have hr2 : s2.rel[q]? = some r := by rw [hrel2]; exact mapTo_get _ _ hr
                  obtain ⟨gr, hgr⟩ : ∃ gr, rp = some ⟨gr, 0, none⟩ := by
                    have := (hA.fr.each j s2 (List.getElem?_eq_some_iff.1 hs2).1 hs2).rel
                    unfold rV at this
                    rw [hrp2] at this
                    obtain ⟨a, b, e, _⟩ := own_block this (by omega)
                    cases e; exact ⟨a, rfl⟩
                  subst hgr
                  have hrow := (hA.fr.each j s2 (List.getElem?_eq_some_iff.1 hs2).1 hs2).rel
                  unfold rV at hrow
                  rw [hrp2] at hrow
                  obtain ⟨_, _, e, hrr⟩ := own_shape hrow
                  cases e
                  have hcl := (rl_cells hrr q (by omega)).2.2.1
                  rw [Nat.zero_add, (List.getElem?_eq_some_iff.1 hr2).2] at hcl
                  have hfz : wy.frozen? ⟨gr, q * 4 + 2, none⟩ = false := World.ownsRow.frozenAt hrow _
                  have hxb := hA.box
                  have x0 := cell_of_row _ _ 0 _ _ _ hxb
                  simp only [List.getElem?_toArray, List.getElem?_cons_zero, List.getElem?_cons_succ] at x0
                  have hcell : wy.cell? ⟨gs, j * 6 + 5, none⟩ = some (.slice (some ⟨gr, 0, none⟩) R rc) := by
                    obtain ⟨_, _, e, hr⟩ := own_shape hA.fr.os
                    cases e
                    have := (sc_cells hr j (List.getElem?_eq_some_iff.1 hs2).1).2.2.2.2.2
                    rw [Nat.zero_add, (List.getElem?_eq_some_iff.1 hs2).2] at this
                    rw [this, hrp2, hrc2, hR2]
                  clear hxb
                  have hstep : ∀ v, nrel o.syms r = { r with sym := v } → NmA W2.heap.size W2 g 78 5 k ((ps.map (fun q => (atSy o.syms q, q))).flatMap Nm.cells) (.slice (some ⟨gs, 0, none⟩) n sc3) (.slice yp3 k yc3) (.slice (some ⟨gl, 0, none⟩) k k) (.slice (some ⟨pg, 0, none⟩) k k) (secs2.set j { s2 with rel := s2.rel.set q { r with sym := v } }) (nsyms o.syms) P (wy.setCell ⟨gr, q * 4 + 2, none⟩ (.int .i64 v)) := fun v _ => hA.setR hs2 hrp2 hr2 v
                  have HST := hid hstep
                  have hj2 : j < secs2.length := (List.getElem?_eq_some_iff.1 hs2).1
                  have hnew : ∀ (s3 : Sc), s3.rp = some ⟨gr, 0, none⟩ → s3.rc = rc → s3.con = { c with rel := mapTo (nrel o.syms) c.rel (q + 1) } → (secs2.set j s3)[j]? = some s3 ∧ s3.rp = some ⟨gr, 0, none⟩ ∧ s3.rc = rc ∧ s3.con = { c with rel := mapTo (nrel o.syms) c.rel (q + 1) } ∧ (secs2.set j s3).map Sc.con = (mapTo (nsec o.syms) (o.secs.map Sc.con) j).set j s3.con := fun s3 h1 h2 h3 => by
                    refine ⟨List.getElem?_set_self hj2, h1, h2, h3, ?_⟩
                    rw [List.map_set, hcs2, List.set_set]
                  have HNEW := hid hnew
                  have hset : mapTo (nrel o.syms) c.rel (q + 1) = s2.rel.set q (nrel o.syms r) := by rw [hrel2]; exact (mapTo_set _ _ hr).symm
                  have HSET := hid hset
                  have HA2 := hid hA
                  have HC2 := hid (And.intro hs2 (And.intro hrp2 (And.intro hrc2 (And.intro hcon2 (And.intro hcs2 hr2)))))
                  clear hA hs2 hrp2 hrc2 hcon2 hcs2 hr hr2 hrow hrr hstep hnew hset hrel2 hR2 hRc
                  obtain ⟨ro, rt, ry, ra⟩ := r
                  dsimp only at hcl
                  by_cases h0 : 0 ≤ ry
                  · by_cases hm : ry < k
                    · obtain ⟨t, rfl⟩ : ∃ t : Nat, ry = t := ⟨ry.toNat, by omega⟩
                      have htk : t < k := by omega
                      have htn : ((t : Nat) : Int).toNat = t := by omega
                      have hpt := HPA.out t (by rw [← HN.out.2]; exact htk)
                      obtain ⟨v, hv⟩ : ∃ v, v = (ordP o.syms).idxOf t := ⟨_, rfl⟩
                      rw [← hv] at hpt
                      have hpo := HA2.out.pr
                      rw [HPLL.out] at hpo
                      have hpc := (own_cell hpo t (by simp [HPLL.out]; exact htk)).1
                      simp only [List.getElem_map, (List.getElem?_eq_some_iff.1 hpt).2, nat64] at hpc
                      have hnr : nrel o.syms ⟨ro, rt, (t : Int), ra⟩ = ⟨ro, rt, ((v : Nat) : Int), ra⟩ := by
                        unfold nrel
                        rw [if_pos ⟨by simp, by show ((t : Nat) : Int) < _; rw [← HN.out.2]; omega⟩, hv]
                        simp
                      have HV := hid (HST.out (v : Int) hnr)
                      have HNR := hid hnr
                      clear hpt hpo hnr hv
                      go_wp2_with fail
                      refine ⟨⟨q + 1, by omega, by go_num, ⟨_, _, HV.out, HNEW.out _ HC2.out.2.1 HC2.out.2.2.1 ?_⟩⟩, by simp [intOf]; omega⟩
                      rw [HSET.out, HNR.out]
                      exact con_rel _ HC2.out.2.2.2.1
                    · have hnr : nrel o.syms ⟨ro, rt, ry, ra⟩ = ⟨ro, rt, ry, ra⟩ := by
                        unfold nrel
                        rw [if_neg (fun h => hm (by have := h.2; rw [← HN.out.2] at this; exact this))]
                      have HNR := hid hnr
                      have hm' : (k : Int) ≤ ry := by omega
                      have hmd : decide (ry < (k : Int)) = false := decide_eq_false (by omega)
                      clear hnr hm
                      go_wp2_with fail
                      refine ⟨⟨q + 1, by omega, by go_num, ⟨secs2, s2, HA2.out, HC2.out.1, HC2.out.2.1, HC2.out.2.2.1, ?_, HC2.out.2.2.2.2.1⟩⟩, by simp [intOf]; omega⟩
                      rw [HSET.out, HNR.out, set_self _ _ _ HC2.out.2.2.2.2.2]
                      exact con_same HC2.out.2.2.2.1
                  · have hnr : nrel o.syms ⟨ro, rt, ry, ra⟩ = ⟨ro, rt, ry, ra⟩ := by
                      unfold nrel
                      rw [if_neg (fun h => h0 h.1)]
                    have HNR := hid hnr
                    have h0' : ry < 0 := by omega
                    clear hnr h0
                    go_wp2_with fail
                    refine ⟨⟨q + 1, by omega, by go_num, ⟨secs2, s2, HA2.out, HC2.out.1, HC2.out.2.1, HC2.out.2.2.1, ?_, HC2.out.2.2.2.2.1⟩⟩, by simp [intOf]; omega⟩
                    rw [HSET.out, HNR.out, set_self _ _ _ HC2.out.2.2.2.2.2]
                    exact con_same HC2.out.2.2.2.1
                · have hqe : q = R := by omega
                  subst hqe
                  have HFIN : Hid (secs2.map Sc.con = mapTo (nsec o.syms) (o.secs.map Sc.con) (j + 1)) := by
                    show _ = _
                    rw [hcs2, hcon2, mapTo_all _ _ hRc]
                    exact mapTo_set (nsec o.syms) _ HCC.out
                  have HA2 := hid hA
                  clear hA hs2 hrp2 hrc2 hcon2 hcs2 hrel2 hR2 hRc
                  go_wp2_with fail
                  exact ⟨⟨j + 1, secs2, by omega, by go_num, ⟨HA2.out, HFIN.out⟩⟩, by simp [intOf]; omega⟩
            · have hje : j = n := by omega
              subst hje
              have hres : wx.heap[W.heap.size + 1]? = some (.cells #[.slice none 0 0, .slice none 0 0] 25 (0, 0)) := (HJ.out.b.block _ (by have := HZ.out; omega)).trans HY.out.2
              have hr0 := cell_of_row _ _ 0 _ _ _ hres
              have hr1 := cell_of_row _ _ 1 _ _ _ hres
              have hf0 := frozen_of_row _ _ 0 _ _ hres
              have hf1 := frozen_of_row _ _ 1 _ _ hres
              simp only [List.getElem?_toArray, List.getElem?_cons_zero, List.getElem?_cons_succ] at hr0 hr1
              have hbw := HBB.out _ HJ.out.b
              have hfr := HJ.out.fr.base HB2.out.size
              have HB9 : Hid (∀ (u v : Value), Below W.heap.size W ((wx.setCell ⟨W.heap.size + 1, 0, none⟩ u).setCell ⟨W.heap.size + 1, 1, none⟩ v)) := fun u v => (hbw.setCell (Nat.le_succ _) _).setCell (Nat.le_succ _) _
              have HF9 : Hid (∀ (u v : Value), FrV W.heap.size ((wx.setCell ⟨W.heap.size + 1, 0, none⟩ u).setCell ⟨W.heap.size + 1, 1, none⟩ v) (.slice sp3 j sc3) (.slice yp3 k yc3) secs1 (nsyms o.syms) secs1.length) := fun u v => by
                have l1 : ∀ (w : World) (j : Nat) (x : Value), tagAt w (W.heap.size + 1) = some (25 + 1) → W.heap.size ≤ w.heap.size → Lies W.heap.size isO w (w.setCell ⟨W.heap.size + 1, j, none⟩ x) := fun w j x ht hz =>
                  Lies.grown (grown_set w _ x) (fun q e => by cases e; exact ⟨ht, Nat.le_succ _⟩) (by unfold isO; decide) hz
                have t1 := tag_row hres
                have t2 : tagAt (wx.setCell ⟨W.heap.size + 1, 0, none⟩ u) (W.heap.size + 1) = some (25 + 1) := tag_row (heap_setCell_same _ _ 0 _ _ _ hres)
                exact (hfr.lies (l1 wx 0 u t1 hbw.size)).lies (l1 _ 1 v t2 (by simpa using hbw.size))
              have HR9 : Hid (∀ (u v : Value), ((wx.setCell ⟨W.heap.size + 1, 0, none⟩ u).setCell ⟨W.heap.size + 1, 1, none⟩ v).heap[W.heap.size + 1]? = some (.cells #[u, v] 25 (0, 0))) := fun u v => heap_setCell_same _ _ 1 _ _ _ (heap_setCell_same _ _ 0 _ _ _ hres)
              have HCN : Hid (secs1.map Sc.con = o.con.1.map (nsec o.con.2)) := by
                have := HJC.out
                rw [mapTo_all _ _ (by simp; exact HN.out.1)] at this
                exact this
              clear hres hbw hfr hx
              go_wp2_with fail
              have r9 := HR9.out (.slice sp3 j sc3) (.slice yp3 k yc3)
              have y0 := cell_of_row _ _ 0 _ _ _ r9
              have y1 := cell_of_row _ _ 1 _ _ _ r9
              simp only [List.getElem?_toArray, List.getElem?_cons_zero, List.getElem?_cons_succ] at y0 y1
              obtain ⟨W9, hW9⟩ : ∃ W9, W9 = (wx.setCell ⟨W.heap.size + 1, 0, none⟩ (.slice sp3 j sc3)).setCell ⟨W.heap.size + 1, 1, none⟩ (.slice yp3 k yc3) := ⟨_, rfl⟩
              rw [← hW9] at y0 y1 ⊢
              refine bodyPost_ret (v := .agg #[.slice sp3 j sc3, .slice yp3 k yc3]) (by simp [results, Try.results27, go_sem, y0, y1]) rfl ?_
              exact ⟨⟨_, _, secs1, rfl, by rw [hW9]; exact HF9.out _ _, HCN.out⟩, by rw [hW9]; exact HB9.out _ _⟩
end Go.Proofs.Yteccpmmedpkddaa
