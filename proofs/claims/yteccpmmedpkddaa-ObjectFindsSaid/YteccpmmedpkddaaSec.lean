/-
  Sections: which may be.
-/
import Derived.Test.YteccpmmedpkddaaAlign
import Derived.Deep.RegionHeld3
namespace Go.Proofs.Yteccpmmedpkddaa
open Go.RowKit

def secTail (s : Sc) (n : Int) : Bool := if s.kind = 4 then decide (s.data.length = 0) && decide (s.rel.length = 0) else decide ((s.data.length : Int) = s.size) && relP s.size n s.rel
def secP (s : Sc) (n : Int) : Bool := nameP s.name && decide (s.kind = kindP s.name) && alP s.align && decide (0 ≤ s.size) && decide (s.size ≤ 1048576) && secTail s n

theorem below_more {B : Nat} {W w1 w2 : World} (h2 : Below w1.heap.size w1 w2) (h1 : Below B W w1) (hB : B ≤ W.heap.size) : Below B W w2 := h1.trans (h2.mono (Nat.le_trans hB h1.size))
theorem alP_out (a : Int) (h : ¬ (1 ≤ a ∧ a ≤ 4096)) : alP a = false := by
  rw [Bool.eq_false_iff]
  intro e
  simp only [alP, Bool.or_eq_true, decide_eq_true_eq] at e
  omega
theorem quiet_sym {P : Program} {f : FuncId} {args : Array Value} {w : World} {n : Nat} {v : Value} (h : Calls P f args (w.drewN n) fun e w' => e = .returned v ∧ w.drewN n = w') : Calls P f args (w.drewN n) fun e w'' => e = .returned v ∧ ∃ m, w'' = w.drewN m :=
  h.mono fun _ _ ⟨he, hm⟩ => ⟨he, n, hm.symm⟩
theorem alP_range (a : Int) (h : alP a = true) : 1 ≤ a ∧ a ≤ 4096 := by
  simp only [alP, Bool.or_eq_true, decide_eq_true_eq] at h
  omega

set_option maxRecDepth 20000 in
set_option maxHeartbeats 2000000 in
theorem section_any (s : Sc) (n : Int) (w : World) (hs : s.ok w) (hn : 0 ≤ n ∧ n ≤ 4398046510976) :
    Calls Try.prog 36 #[.agg s.cells.toArray, .int .i64 n] w fun e w' => e = .returned (.bool (secP s n)) ∧ Below w.heap.size w w' := by
  have HR := hid (fun w1 (hb : Below w.heap.size w w1) h0 h1 => relocs_any s n w1 (hs.below hb) h0 h1 hn)
  have HN := hid (fun w1 => name_any s.name w1 hs.name)
  have HK := hid (fun w1 => kind_any s.name w1)
  have hk := hs.kind
  have ha := hs.align
  have hz := hs.size
  have HP : Hid (secP s n = (nameP s.name && decide (s.kind = kindP s.name) && alP s.align && decide (0 ≤ s.size) && decide (s.size ≤ 1048576) && secTail s n)) := rfl
  unfold secTail at HP
  clear hs
  obtain ⟨name, kind, align, size, data, dp, dc, rel, rp, rc⟩ := s
  unfold Sc.cells at HR
  dsimp only at HR HN HK hk ha hz HP ⊢
  generalize nameP name = nb at HN HP
  generalize kindP name = kb at HK HP
  generalize relP size n rel = rb at HR HP
  show Calls Try.prog 36 #[.agg #[.string name, .int .i64 kind, .int .i64 align, .int .i64 size, .slice dp data.length dc, .slice rp rel.length rc], .int .i64 n] w _
  have hbx : Below w.heap.size w (w.alloc (.cells #[.string name, .int .i64 kind, .int .i64 align, .int .i64 size, .slice dp data.length dc, .slice rp rel.length rc] 40)) := (Below.refl _ _).alloc (Nat.le_refl _) _
  cases nb with
  | false =>
    go_enter Try.func36, Try.ntmps36
    go_wp2
    go_quiet ((go_at_call 61; exact quiet_sym (HN.out _)))
    go_wp2
    go_ret
    exact ⟨ret_bool (by rw [HP.out]; rfl), below_drewN hbx _⟩
  | true =>
    obtain ⟨wd, hwd⟩ : ∃ wd, wd = w.alloc (.cells #[.string name, .int .i64 kind, .int .i64 align, .int .i64 size, .slice dp data.length dc, .slice rp rel.length rc] 40) := ⟨_, rfl⟩
    have hblk : wd.heap[w.heap.size]? = some (.cells #[.string name, .int .i64 kind, .int .i64 align, .int .i64 size, .slice dp data.length dc, .slice rp rel.length rc] 40 (0, 0)) := by rw [hwd]; exact heap_alloc_new w _
    have hall : ∀ w', Below wd.heap.size wd w' → w'.heap[w.heap.size]? = some (.cells #[.string name, .int .i64 kind, .int .i64 align, .int .i64 size, .slice dp data.length dc, .slice rp rel.length rc] 40 (0, 0)) := fun w' hb => (hb.block _ (Array.getElem?_eq_some_iff.1 hblk).1).trans hblk
    have g0 : ∀ w', Below wd.heap.size wd w' → w'.cell? ⟨w.heap.size, 0, none⟩ = some (.string name) := fun w' hb => cell_of_row w' _ 0 _ _ _ (hall w' hb)
    have g1 : ∀ w', Below wd.heap.size wd w' → w'.cell? ⟨w.heap.size, 1, none⟩ = some (.int .i64 kind) := fun w' hb => cell_of_row w' _ 1 _ _ _ (hall w' hb)
    go_enter Try.func36, Try.ntmps36
    go_upto_region 1 with (fail)
    rw [← hwd] at hbx ⊢
    have HALL := hid hall
    have hblk0 : Hid _ := hid hblk
    clear hwd hall hblk
    go_cut [5] (fun v wx => v = .bool (kind != kb) ∧ Below wd.heap.size wd wx)
    case first =>
      go_region_held3 (fun w' => Below wd.heap.size wd w') (first | exact (Below.refl _ _).drew | assumption) (first | (go_at_call 61; with_reducible refine (HN.out _).mono ?_; rintro e w' ⟨rfl, rfl⟩) | (go_at_call 9; with_reducible refine (HK.out _).mono ?_; rintro e w' ⟨rfl, hbq⟩; have hq2 : Below wd.heap.size wd w' := below_more hbq (by assumption) (Nat.le_refl _); clear hbq))
      all_goals (go_wp2_with fail; go_meet)
      all_goals exact ⟨rfl, by assumption⟩
    case rest =>
      obtain ⟨rfl, hbc⟩ := hcut
      have hall := HALL.out _ hbc
      have hbwx := below_more hbc hbx (Nat.le_refl _)
      have HRX := hid (HR.out _ hbwx)
      have d0 := cell_of_row wc w.heap.size 0 _ _ _ hall
      have d1 := cell_of_row wc w.heap.size 1 _ _ _ hall
      have d2 := cell_of_row wc w.heap.size 2 _ _ _ hall
      have d3 := cell_of_row wc w.heap.size 3 _ _ _ hall
      have d4 := cell_of_row wc w.heap.size 4 _ _ _ hall
      have d5 := cell_of_row wc w.heap.size 5 _ _ _ hall
      simp only [List.getElem?_toArray, List.getElem?_cons_zero, List.getElem?_cons_succ] at d0 d1 d2 d3 d4 d5
      clear g0 g1 hall hbc hbx HR
      by_cases hkk : kind = kb
      · have hk2 : (kind != kb) = false := by simpa using hkk
        have HKK := hid hkk
        clear hkk
        by_cases h1 : 1 ≤ align
        · by_cases h2 : align ≤ 4096
          · have HON := hid (fun w => ones_any align w h1 h2)
            have HAL := hid (ones_al align h1 h2)
            generalize onesE align = oe at HON HAL
            generalize alP align = al at HAL HP
            have hoe : (oe != 1) = !al := HAL.out
            clear HAL
            cases al with
            | false =>
              simp only [Bool.not_false] at hoe
              go_wp2_with (go_at_call 62; refine (HON.out _).mono ?_; rintro e w' ⟨rfl, rfl⟩)
              go_ret
              exact ⟨ret_bool (by rw [HP.out]; simp), hbwx⟩
            | true =>
              simp only [Bool.not_true] at hoe
              by_cases h3 : 0 ≤ size
              · by_cases h4 : size ≤ 1048576
                · go_wp2_with (first
                    | (go_at_call 62; refine (HON.out _).mono ?_; rintro e w' ⟨rfl, rfl⟩)
                    | (go_at_call 63; refine (HRX.out (by omega) (by omega)).mono ?_; rintro e w' ⟨rfl, hbr⟩))
                  all_goals (go_ret; refine ⟨ret_bool ?_, ?_⟩)
                  all_goals first
                    | exact hbwx
                    | exact below_more (by assumption) hbwx (Nat.le_refl _)
                    | (have hkk := HKK.out; rw [HP.out]; clear HN HK HRX HON HKK HALL hblk0 HP; simp_all; done)
                    | (have hkk := HKK.out; have h9 : ((rel.length : Int) == 0) = decide (rel.length = 0) := (by rw [Bool.eq_iff_iff]; simp); rw [HP.out, h9]; clear HN HK HRX HON HKK HALL hblk0 HP; simp_all; done)
                · have h4' : 1048576 < size := by omega
                  have h9 : decide (size ≤ 1048576) = false := decide_eq_false h4
                  have H9 := hid h9
                  clear h9 h4
                  go_wp2_with (go_at_call 62; refine (HON.out _).mono ?_; rintro e w' ⟨rfl, rfl⟩)
                  go_ret
                  exact ⟨ret_bool (by rw [HP.out, H9.out]; simp), hbwx⟩
              · have h3' : size < 0 := by omega
                have h9 : decide (0 ≤ size) = false := decide_eq_false h3
                have H9 := hid h9
                clear h9 h3
                go_wp2_with (go_at_call 62; refine (HON.out _).mono ?_; rintro e w' ⟨rfl, rfl⟩)
                go_ret
                exact ⟨ret_bool (by rw [HP.out, H9.out]; simp), hbwx⟩
          · have hal := alP_out align (by omega)
            have h2' : 4096 < align := by omega
            go_wp2
            go_ret
            exact ⟨ret_bool (by rw [HP.out, hal]; simp), hbwx⟩
        · have hal := alP_out align (by omega)
          have h1' : align < 1 := by omega
          go_wp2
          go_ret
          exact ⟨ret_bool (by rw [HP.out, hal]; simp), hbwx⟩
      · have hk2 : (kind != kb) = true := by simpa using hkk
        go_wp2
        go_ret
        exact ⟨ret_bool (by rw [HP.out, decide_eq_false hkk]; rfl), hbwx⟩
end Go.Proofs.Yteccpmmedpkddaa
