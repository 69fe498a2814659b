/-
  Sections: which may be: the document's walk.
-/
import Derived.Test.YteccpmmedpkddaaSec
namespace Go.Proofs.Yteccpmmedpkddaa
open Go.RowKit

theorem secTail_ref (s : Sc) (n : Int) (h0 : 0 ≤ s.size) : secTail s n = (decide ((s.data.length : Int) = if s.kind = 4 then 0 else s.size) && rrelP s.kind s.size n s.rel) := by
  unfold secTail rrelP
  by_cases h : s.kind = 4
  · simp only [h, if_true, true_and]
    by_cases hl : 0 < s.rel.length
    · have : ¬ s.rel.length = 0 := by omega
      simp [hl, this]
    · have hn : s.rel = [] := List.eq_nil_of_length_eq_zero (by omega)
      rw [Bool.eq_iff_iff]
      simp [hn, relP, relN]
  · simp [h]

set_option maxRecDepth 20000 in
set_option maxHeartbeats 8000000 in
theorem rsection_any (s : Sc) (n : Int) (w : World) (hs : s.ok w) (hn : 0 ≤ n ∧ n ≤ 4398046510976) :
    Calls Try.prog 40 #[.agg s.cells.toArray, .int .i64 n] w fun e w' => e = .returned (.bool (secP s n)) ∧ Below w.heap.size w w' := by
  have HR := hid (fun w1 (hb : Below w.heap.size w w1) h0 h1 => rrelocs_any s n w1 (hs.below hb) h0 h1 hn)
  have HN := hid (fun w1 => rname_any s.name w1 hs.name)
  have HK := hid (fun w1 => rkind_any s.name w1)
  have HA := hid (fun w1 => ralign_any s.align w1)
  have hk := hs.kind
  have ha := hs.align
  have hz := hs.size
  have HT := hid (secTail_ref s n)
  have HP : Hid (secP s n = (nameP s.name && decide (s.kind = kindP s.name) && alP s.align && decide (0 ≤ s.size) && decide (s.size ≤ 1048576) && secTail s n)) := rfl
  clear hs
  obtain ⟨name, kind, align, size, data, dp, dc, rel, rp, rc⟩ := s
  unfold Sc.cells at HR
  dsimp only at HR HN HK HA HT hk ha hz HP ⊢
  generalize nameP name = nb at HN HP
  generalize kindP name = kb at HK HP
  generalize alP align = al at HA HP
  generalize rrelP kind size n rel = rb at HR HT
  show Calls Try.prog 40 #[.agg #[.string name, .int .i64 kind, .int .i64 align, .int .i64 size, .slice dp data.length dc, .slice rp rel.length rc], .int .i64 n] w _
  have hbx : Below w.heap.size w (w.alloc (.cells #[.string name, .int .i64 kind, .int .i64 align, .int .i64 size, .slice dp data.length dc, .slice rp rel.length rc] 40)) := (Below.refl _ _).alloc (Nat.le_refl _) _
  have hbx0 := hbx
  obtain ⟨wd, hwd⟩ : ∃ wd, wd = w.alloc (.cells #[.string name, .int .i64 kind, .int .i64 align, .int .i64 size, .slice dp data.length dc, .slice rp rel.length rc] 40) := ⟨_, rfl⟩
  have hblk : wd.heap[w.heap.size]? = some (.cells #[.string name, .int .i64 kind, .int .i64 align, .int .i64 size, .slice dp data.length dc, .slice rp rel.length rc] 40 (0, 0)) := by rw [hwd]; exact heap_alloc_new w _
  have hall : ∀ w', Below wd.heap.size wd w' → w'.heap[w.heap.size]? = some (.cells #[.string name, .int .i64 kind, .int .i64 align, .int .i64 size, .slice dp data.length dc, .slice rp rel.length rc] 40 (0, 0)) := fun w' hb => (hb.block _ (Array.getElem?_eq_some_iff.1 hblk).1).trans hblk
  have g0 : ∀ w', Below wd.heap.size wd w' → w'.cell? ⟨w.heap.size, 0, none⟩ = some (.string name) := fun w' hb => cell_of_row w' _ 0 _ _ _ (hall w' hb)
  have g1 : ∀ w', Below wd.heap.size wd w' → w'.cell? ⟨w.heap.size, 1, none⟩ = some (.int .i64 kind) := fun w' hb => cell_of_row w' _ 1 _ _ _ (hall w' hb)
  have g2 : ∀ w', Below wd.heap.size wd w' → w'.cell? ⟨w.heap.size, 2, none⟩ = some (.int .i64 align) := fun w' hb => cell_of_row w' _ 2 _ _ _ (hall w' hb)
  have g3 : ∀ w', Below wd.heap.size wd w' → w'.cell? ⟨w.heap.size, 3, none⟩ = some (.int .i64 size) := fun w' hb => cell_of_row w' _ 3 _ _ _ (hall w' hb)
  have HALL := hid hall
  have HWD := hid hwd
  clear hwd hall hblk
  cases nb with
  | false =>
    go_enter Try.func40, Try.ntmps40
    go_upto_region 1 with (fail)
    go_quiet (first | (go_at_call 66; exact quiet_sym (HN.out _)) | (go_at_call 10; exact quiet_sym (HK.out _)) | (go_at_call 67; exact quiet_sym (HA.out _)))
    go_wp2
    go_ret
    exact ⟨ret_bool (by rw [HP.out]; simp), below_drewN hbx0 _⟩
  | true =>
    by_cases hkk : kind = kb
    case neg =>
      have hkx : (kind != kb) = true := by simpa using hkk
      have HKK := hid (decide_eq_false hkk)
      clear hkk
      go_enter Try.func40, Try.ntmps40
      go_upto_region 1 with (fail)
      go_quiet (first | (go_at_call 66; exact quiet_sym (HN.out _)) | (go_at_call 10; exact quiet_sym (HK.out _)) | (go_at_call 67; exact quiet_sym (HA.out _)))
      go_wp2
      go_ret
      exact ⟨ret_bool (by rw [HP.out, HKK.out]; simp), below_drewN hbx0 _⟩
    have hkx : (kind != kb) = false := by simpa using hkk
    have HKK := hid (decide_eq_true hkk)
    clear hkk
    cases al with
    | false =>
      go_enter Try.func40, Try.ntmps40
      go_upto_region 1 with (fail)
      go_quiet (first | (go_at_call 66; exact quiet_sym (HN.out _)) | (go_at_call 10; exact quiet_sym (HK.out _)) | (go_at_call 67; exact quiet_sym (HA.out _)))
      go_wp2
      go_ret
      exact ⟨ret_bool (by rw [HP.out]; simp), below_drewN hbx0 _⟩
    | true =>
      by_cases h3 : 0 ≤ size
      case neg =>
        have h3' : size < 0 := by omega
        have hd3 := decide_eq_false h3
        have H3 := hid hd3
        clear h3
        go_enter Try.func40, Try.ntmps40
        go_upto_region 1 with (fail)
        go_quiet (first | (go_at_call 66; exact quiet_sym (HN.out _)) | (go_at_call 10; exact quiet_sym (HK.out _)) | (go_at_call 67; exact quiet_sym (HA.out _)))
        go_wp2
        go_ret
        exact ⟨ret_bool (by rw [HP.out, H3.out]; simp), below_drewN hbx0 _⟩
      have H3 := hid (decide_eq_true h3)
      have hg3 : decide (size < 0) = false := decide_eq_false (by omega)
      by_cases h4 : size ≤ 1048576
      case neg =>
        have h4' : 1048576 < size := by omega
        have hd4 := decide_eq_false h4
        have H4 := hid hd4
        clear h4
        go_enter Try.func40, Try.ntmps40
        go_upto_region 1 with (fail)
        go_quiet (first | (go_at_call 66; exact quiet_sym (HN.out _)) | (go_at_call 10; exact quiet_sym (HK.out _)) | (go_at_call 67; exact quiet_sym (HA.out _)))
        go_wp2
        go_ret
        exact ⟨ret_bool (by rw [HP.out, H4.out]; simp), below_drewN hbx0 _⟩
      have H4 := hid (decide_eq_true h4)
      have hg4 : decide (1048576 < size) = false := decide_eq_false (by omega)
      have HT2 := hid (HT.out h3)
      go_enter Try.func40, Try.ntmps40
      go_upto_region 1 with (fail)
      rw [← HWD.out] at hbx ⊢
      go_cut [33] (fun v wx => v = .bool false ∧ Below wd.heap.size wd wx)
      case first =>
        go_region_held3 (fun w' => Below wd.heap.size wd w') (first | exact (Below.refl _ _).drew | assumption) (first | (go_at_call 66; with_reducible refine (HN.out _).mono ?_; rintro e w' ⟨rfl, rfl⟩) | (go_at_call 10; with_reducible refine (HK.out _).mono ?_; rintro e w' ⟨rfl, rfl⟩) | (go_at_call 67; with_reducible refine (HA.out _).mono ?_; rintro e w' ⟨rfl, rfl⟩))
        all_goals (go_wp2_with fail; go_meet)
        all_goals exact ⟨rfl, by assumption⟩
      case rest =>
        obtain ⟨rfl, hbc⟩ := hcut
        have hblk := HALL.out _ hbc
        have hbwx := below_more hbc hbx (Nat.le_refl _)
        have HRX := hid (HR.out _ hbwx)
        have d0 := cell_of_row wc w.heap.size 0 _ _ _ hblk
        have d1 := cell_of_row wc w.heap.size 1 _ _ _ hblk
        have d2 := cell_of_row wc w.heap.size 2 _ _ _ hblk
        have d3 := cell_of_row wc w.heap.size 3 _ _ _ hblk
        have d4 := cell_of_row wc w.heap.size 4 _ _ _ hblk
        have d5 := cell_of_row wc w.heap.size 5 _ _ _ hblk
        have hfz := frozen_of_row wc w.heap.size 0 _ _ hblk
        simp only [List.getElem?_toArray, List.getElem?_cons_zero, List.getElem?_cons_succ] at d0 d1 d2 d3 d4 d5
        clear g0 g1 g2 g3 hbc hbx HR hblk
        clear hg3 hg4 hkx
        by_cases h5 : kind = 4
        case pos =>
          have h5' : (kind == 4) = true := by simpa using h5
          have H5 := hid h5
          clear h5
          have HT3 : Hid (secP ⟨name, kind, align, size, data, dp, dc, rel, rp, rc⟩ n = (decide (data = []) && rb)) := by
            rw [Hid, HP.out, HT2.out, HKK.out, H3.out, H4.out, if_pos H5.out]
            cases data <;> simp
            intro h; omega
          by_cases hd : data = []
          · subst hd
            simp only [List.length_nil] at HRX d4
            go_wp2_with (go_at_call 68; refine (HRX.out h3 h4).mono ?_; rintro e w' ⟨rfl, hbr⟩)
            go_ret
            exact ⟨ret_bool (by rw [HT3.out]; simp), below_more hbr hbwx (Nat.le_refl _)⟩
          · have HDD := hid hd
            have hd2 : ((data.length : Int) == 0) = false := by
              rw [beq_eq_false_iff_ne]; intro e; exact hd (List.eq_nil_of_length_eq_zero (by omega))
            clear hd
            go_wp2_with (fail)
            go_ret
            exact ⟨ret_bool (by rw [HT3.out, decide_eq_false HDD.out]; simp), hbwx⟩
        case neg =>
          have h5' : (kind == 4) = false := by simpa using h5
          have H5 := hid h5
          clear h5
          have HT3 : Hid (secP ⟨name, kind, align, size, data, dp, dc, rel, rp, rc⟩ n = (decide ((data.length : Int) = size) && rb)) := by
            rw [Hid, HP.out, HT2.out, HKK.out, H3.out, H4.out, if_neg H5.out]; simp
          go_wp2_with (go_at_call 68; refine (HRX.out h3 h4).mono ?_; rintro e w' ⟨rfl, hbr⟩)
          all_goals (go_ret; refine ⟨ret_bool ?_, ?_⟩)
          all_goals first
            | exact hbwx
            | exact below_more (by assumption) hbwx (Nat.le_refl _)
            | (rw [HT3.out]; clear HN HK HA HRX HT2 HT HP HALL HWD HT3; simp_all; done)
end Go.Proofs.Yteccpmmedpkddaa
