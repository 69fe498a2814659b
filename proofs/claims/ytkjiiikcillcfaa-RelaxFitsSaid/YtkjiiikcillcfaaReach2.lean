/-
  The walks of Reaches, the program's and the document's.
-/
import Derived.Test.YtkjiiikcillcfaaReach
namespace Go.Proofs.Ytkjiiikcillcfaa
open Go.RowKit

theorem plainP_br {x : It} {n : Int} (h : plainP x n = true) (hk : x.kind = 3) : 0 ≤ x.to ∧ x.to ≤ n ∧ -1073741824 ≤ x.add ∧ x.add ≤ 1073741824 := by
  simp [plainP, hk, within] at h; omega
theorem offs_bd (xs : List It) (ls : List Bool) (h : checkP xs = 0) : ∀ a ∈ offs xs ls, 0 ≤ a ∧ a ≤ 67108864 := by
  obtain ⟨h1, h2, h3⟩ := checkP_ok h
  intro a ha
  simp only [offs, List.mem_map, List.mem_range] at ha
  obtain ⟨k, hk, rfl⟩ := ha
  have h4 := off_bd xs ls h2 k (by omega)
  have h5 := total_take xs.length xs h2 k
  omega
theorem reachOk_of (xs : List It) (ls : List Bool) (h : checkP xs = 0) (k : Nat) (hk : k < xs.length) (h3 : xs[k].kind = 3) : ReachOk xs[k] k (offs xs ls) := by
  obtain ⟨h1, h2, h4⟩ := checkP_ok h
  have := plainP_br (h2 _ (List.getElem_mem hk)) h3
  have hl := offs_len xs ls
  exact ⟨this.1, by omega, by omega, this.2.2.1, this.2.2.2, offs_bd xs ls h⟩

/-- What Reaches answers. -/
def reachesP (xs : List It) (ls : List Bool) (n : Int) : Bool :=
  decide (offErr xs ls = 0) && (decide (0 ≤ n) && (match xs[n.toNat]? with | some x => decide (x.kind = 3) && reachP x n.toNat (offs xs ls) | none => false))

set_option maxHeartbeats 1000000 in
theorem Reaches_any (p : Option Addr) (c : Nat) (xs : List It) (q : Option Addr) (d : Nat) (ls : List Bool) (n : Int) (w : World) (hm : xs.length ≤ 1000000) (hm2 : ls.length ≤ 1000000)
    (hrow : Row w p (itCells xs)) (hrow2 : Row w q (bools ls)) :
    Calls Try.prog 20 #[.slice p xs.length c, .slice q ls.length d, i64 n] w fun e w' => e = .returned (.bool (reachesP xs ls n)) ∧ Below w.heap.size w w' := by
  have HO := Offsets_any p c xs q d ls w hm hm2 hrow hrow2
  obtain ⟨E, hEE⟩ : ∃ E, E = offErr xs ls := ⟨_, rfl⟩
  unfold OffPost at HO
  rw [← hEE] at HO
  by_cases hE : E = 0
  · have HEE := hid hEE
    subst hE
    have hck := (offErr_ok hEE.symm).1
    have hRes : offRes xs ls = offs xs ls := by simp [offRes, ← hEE]
    rw [hRes, offs_len] at HO
    clear hRes
    have hx := (checkP_ok hck).1
    by_cases h0 : 0 ≤ n
    · obtain ⟨k, rfl⟩ : ∃ k : Nat, n = k := ⟨n.toNat, by omega⟩
      by_cases hlt : k < xs.length
      · obtain ⟨b, off, rfl, hbs, hzz⟩ := hrow.at (by have := itCells_len xs; omega)
        clear hzz
        have HC := hid (fun (w1 : World) (hb : Below w.heap.size w w1) => item_cells (hrow.below hb) k hlt)
        have HR := fun h3 => reachOk_of xs ls hck k hlt h3
        have hsx : xs[k]? = some xs[k] := List.getElem?_eq_getElem hlt
        have HP : Hid (reachesP xs ls k = (decide (xs[k].kind = 3) && reachP xs[k] k (offs xs ls))) := by simp [Hid, reachesP, ← hEE, hsx]
        have HHX : Hid (∃ x, x = xs[k]) := ⟨_, rfl⟩
        obtain ⟨x, hxx⟩ := HHX.out
        rw [← hxx] at HC HR HP
        clear hsx hxx hck hEE h0
        by_cases hk3 : x.kind = 3
        · have HR := HR hk3
          have HRA := hid (fun p c w1 hr => reaches_any x k p c (offs xs ls) w1 HR hr (by rw [offs_len]; omega) (xs.length + 1) (offs_len xs ls).symm)
          obtain ⟨kind, size, al, to, add, lo, hi⟩ := x
          dsimp only at HC hk3
          clear HR
          subst hk3
          unfold It.val at HRA
          dsimp only at HRA
          go_enter Try.func20, Try.ntmps20
          go_wp2_with (first
            | (go_at_call 16; refine HO.mono ?_; rintro e w1 ⟨v, rfl, ho1, hb1⟩; obtain ⟨c0, c1, c2, c3, c4, c5, c6⟩ := HC.out _ hb1; obtain ⟨vp, vc, rfl, hvr⟩ := own_shape ho1)
            | (go_at_call 36; refine (HRA.out _ _ _ hvr).mono ?_; rintro e w2 ⟨rfl, hb2⟩))
          go_ret
          exact ⟨ret_bool (by rw [HP.out]; simp), hb1.trans (hb2.mono hb1.size)⟩
        · have e3 : (x.kind == 3) = false := by simpa using hk3
          have HP : Hid (reachesP xs ls k = false) := by simp only [Hid]; rw [HP.out]; simp [hk3]
          clear HR hk3
          go_enter Try.func20, Try.ntmps20
          go_wp2_with ((go_at_call 16; refine HO.mono ?_; rintro e w1 ⟨v, rfl, ho1, hb1⟩; obtain ⟨c0, c1, c2, c3, c4, c5, c6⟩ := HC.out _ hb1))
          go_ret
          exact ⟨ret_bool (by rw [HP.out]), hb1⟩
      · have HP : Hid (reachesP xs ls k = false) := by simp [Hid, reachesP, List.getElem?_eq_none (show xs.length ≤ k by omega)]
        clear hEE hck h0
        go_enter Try.func20, Try.ntmps20
        go_wp2_with (go_at_call 16; refine HO.mono ?_; rintro e w1 ⟨v, rfl, ho1, hb1⟩)
        go_ret
        exact ⟨ret_bool (by rw [HP.out]), hb1⟩
    · have HP : Hid (reachesP xs ls n = false) := by simp [Hid, reachesP, h0]
      have h0 : n < 0 := by omega
      clear hEE hck
      go_enter Try.func20, Try.ntmps20
      go_wp2_with (go_at_call 16; refine HO.mono ?_; rintro e w1 ⟨v, rfl, ho1, hb1⟩)
      go_ret
      exact ⟨ret_bool (by rw [HP.out]), hb1⟩
  · have HP : Hid (reachesP xs ls n = false) := by simp [Hid, reachesP, ← hEE, hE]
    have hne : (E == 0) = false := by simpa using hE
    clear hE hEE
    go_enter Try.func20, Try.ntmps20
    go_wp2_with (go_at_call 16; refine HO.mono ?_; rintro e w1 ⟨v, rfl, ho1, hb1⟩)
    go_ret
    exact ⟨ret_bool (by rw [HP.out]), hb1⟩

set_option maxHeartbeats 1000000 in
theorem refReaches_any (p : Option Addr) (c : Nat) (xs : List It) (q : Option Addr) (d : Nat) (ls : List Bool) (n : Int) (w : World) (hm : xs.length ≤ 1000000) (hm2 : ls.length ≤ 1000000)
    (hrow : Row w p (itCells xs)) (hrow2 : Row w q (bools ls)) :
    Calls Try.prog 21 #[.slice p xs.length c, .slice q ls.length d, i64 n] w fun e w' => e = .returned (.bool (reachesP xs ls n)) ∧ Below w.heap.size w w' := by
  have HO := refOffsets_any p c xs q d ls w hm hrow hrow2
  obtain ⟨E, hEE⟩ : ∃ E, E = offErr xs ls := ⟨_, rfl⟩
  unfold OffPost at HO
  rw [← hEE] at HO
  by_cases hE : E = 0
  · have HEE := hid hEE
    subst hE
    have hck := (offErr_ok hEE.symm).1
    have hRes : offRes xs ls = offs xs ls := by simp [offRes, ← hEE]
    rw [hRes, offs_len] at HO
    clear hRes
    have hx := (checkP_ok hck).1
    by_cases h0 : 0 ≤ n
    · obtain ⟨k, rfl⟩ : ∃ k : Nat, n = k := ⟨n.toNat, by omega⟩
      by_cases hlt : k < xs.length
      · obtain ⟨b, off, rfl, hbs, hzz⟩ := hrow.at (by have := itCells_len xs; omega)
        clear hzz
        have HC := hid (fun (w1 : World) (hb : Below w.heap.size w w1) => item_cells (hrow.below hb) k hlt)
        have HR := fun h3 => reachOk_of xs ls hck k hlt h3
        have hsx : xs[k]? = some xs[k] := List.getElem?_eq_getElem hlt
        have HP : Hid (reachesP xs ls k = (decide (xs[k].kind = 3) && reachP xs[k] k (offs xs ls))) := by simp [Hid, reachesP, ← hEE, hsx]
        have HHX : Hid (∃ x, x = xs[k]) := ⟨_, rfl⟩
        obtain ⟨x, hxx⟩ := HHX.out
        rw [← hxx] at HC HR HP
        clear hsx hxx hck hEE h0
        by_cases hk3 : x.kind = 3
        · have HR := HR hk3
          have HRA := hid (fun p c w1 hr => rreaches_any x k p c (offs xs ls) w1 HR hr (by rw [offs_len]; omega) (xs.length + 1) (offs_len xs ls).symm)
          obtain ⟨kind, size, al, to, add, lo, hi⟩ := x
          dsimp only at HC hk3
          clear HR
          subst hk3
          unfold It.val at HRA
          dsimp only at HRA
          go_enter Try.func21, Try.ntmps21
          go_wp2_with (first
            | (go_at_call 17; refine HO.mono ?_; rintro e w1 ⟨v, rfl, ho1, hb1⟩; obtain ⟨c0, c1, c2, c3, c4, c5, c6⟩ := HC.out _ hb1; obtain ⟨vp, vc, rfl, hvr⟩ := own_shape ho1)
            | (go_at_call 37; refine (HRA.out _ _ _ hvr).mono ?_; rintro e w2 ⟨rfl, hb2⟩))
          go_ret
          exact ⟨ret_bool (by rw [HP.out]; simp), hb1.trans (hb2.mono hb1.size)⟩
        · have e3 : (x.kind == 3) = false := by simpa using hk3
          have HP : Hid (reachesP xs ls k = false) := by simp only [Hid]; rw [HP.out]; simp [hk3]
          clear HR hk3
          go_enter Try.func21, Try.ntmps21
          go_wp2_with ((go_at_call 17; refine HO.mono ?_; rintro e w1 ⟨v, rfl, ho1, hb1⟩; obtain ⟨c0, c1, c2, c3, c4, c5, c6⟩ := HC.out _ hb1))
          go_ret
          exact ⟨ret_bool (by rw [HP.out]), hb1⟩
      · have HP : Hid (reachesP xs ls k = false) := by simp [Hid, reachesP, List.getElem?_eq_none (show xs.length ≤ k by omega)]
        clear hEE hck h0
        go_enter Try.func21, Try.ntmps21
        go_wp2_with (go_at_call 17; refine HO.mono ?_; rintro e w1 ⟨v, rfl, ho1, hb1⟩)
        go_ret
        exact ⟨ret_bool (by rw [HP.out]), hb1⟩
    · have HP : Hid (reachesP xs ls n = false) := by simp [Hid, reachesP, h0]
      have h0 : n < 0 := by omega
      clear hEE hck
      go_enter Try.func21, Try.ntmps21
      go_wp2_with (go_at_call 17; refine HO.mono ?_; rintro e w1 ⟨v, rfl, ho1, hb1⟩)
      go_ret
      exact ⟨ret_bool (by rw [HP.out]), hb1⟩
  · have HP : Hid (reachesP xs ls n = false) := by simp [Hid, reachesP, ← hEE, hE]
    have hne : (E == 0) = false := by simpa using hE
    clear hE hEE
    go_enter Try.func21, Try.ntmps21
    go_wp2_with (go_at_call 17; refine HO.mono ?_; rintro e w1 ⟨v, rfl, ho1, hb1⟩)
    go_ret
    exact ⟨ret_bool (by rw [HP.out]), hb1⟩
end Go.Proofs.Ytkjiiikcillcfaa
