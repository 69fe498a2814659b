/-
  Step of a whole deque.
-/
import Derived.Test.YtpgdpddmgljpmaaD5
namespace Go.Proofs.Ytpgdpddmgljpmaa
open Go.RowKit
variable {w w' : World} {base d P c : Nat} {hsv : Value} {hb : Nat → Nat} {sv wv : Nat → Value} {S : Dq}

theorem St.alloc {h : Nat} {wv hs : Value} {S : SS} {sv : Value} (H : St w base d h P c wv hs S sv) (o : Obj) : St (w.alloc o) base d h P c wv hs S sv :=
  ⟨(Below.heap_alloc _ _ _ H.dd.lt).trans H.dd, (Below.heap_alloc _ _ _ H.hh.lt).trans H.hh, (Below.heap_alloc _ _ _ (Array.getElem?_eq_some_iff.1 H.pp).1).trans H.pp, H.own.alloc o, by simp; have := H.hb; omega⟩

/-- A worker's access may be done. -/
def okH (S : Dq) (i : Nat) (x : Hd) (o : Int × Int) : Prop :=
  Fit { S.ss x with at_ := x.at_ + 1 } ∧ (if o.1 = 1 then pushOk { S.ss x with at_ := x.at_ + 1 } else if i = 0 ∨ o.1 = 2 then popOk { S.ss x with at_ := x.at_ + 1 } else stealOk { S.ss x with at_ := x.at_ + 1 })

theorem PostS.more {h : Nat} {wv hs : Value} {S' : SS} {sv : Value} {e : Ending} {w0 : World} (hp : PostS w base d h P c wv hs S' sv e w') (ho : Only [some d, some h, some P, sv.ownBlock] w0 w) : PostS w0 base d h P c wv hs S' sv e w' := by
  obtain ⟨he, sv', h1, h2, h3⟩ := hp
  exact ⟨he, sv', h1, ho.more h2 (fun _ h => h), h3.later ho.size⟩

set_option maxHeartbeats 1000000 in
theorem step_walk {h : Nat} {s : SS} {sv hsv : Value} {ob oo m wc : Nat} {o : Int × Int} (H : St w base d h P c (.slice (some ⟨ob, oo, none⟩) m wc) hsv s sv) (i : Nat)
    (HDN : Hid (Calls Try.prog 16 #[.pointer (some ⟨d, 0, none⟩), .int .i64 i] w fun e w' => e = .returned (.bool false) ∧ ∃ q, w' = w.drewN q))
    (HHD : Hid (∀ q, Calls Try.prog 37 #[.pointer (some ⟨d, 0, none⟩), .int .i64 i] (w.drewN q) fun e w' => e = .returned (.pointer (some ⟨h, 0, none⟩)) ∧ w' = w.drewN q))
    (hso : (s.said.length : Int) < m) (o1 : w.cell? ⟨ob, oo + s.said.length * 2, none⟩ = some (i64 o.1)) (o2 : w.cell? ⟨ob, oo + s.said.length * 2 + 1, none⟩ = some (i64 o.2))
    (hob0 : ob < w.heap.size) (hat : -1000 ≤ s.at_ ∧ s.at_ ≤ 1000) (hf : Fit { s with at_ := s.at_ + 1 }) (S' : SS)
    (hk : (o.1 = 1 ∧ pushOk { s with at_ := s.at_ + 1 } ∧ S' = pushS { s with at_ := s.at_ + 1 } o.2) ∨ (o.1 ≠ 1 ∧ (i = 0 ∨ o.1 = 2) ∧ popOk { s with at_ := s.at_ + 1 } ∧ S' = popS { s with at_ := s.at_ + 1 }) ∨ (o.1 ≠ 1 ∧ i ≠ 0 ∧ o.1 ≠ 2 ∧ stealOk { s with at_ := s.at_ + 1 } ∧ S' = stealS { s with at_ := s.at_ + 1 })) :
    Calls Try.prog 15 #[.pointer (some ⟨d, 0, none⟩), .int .i64 i] w (PostS w base d h P c (.slice (some ⟨ob, oo, none⟩) m wc) hsv S' sv) := by
  have hwr : wrap64 (s.at_ + 1) = s.at_ + 1 := wrap_small (by omega) (by omega)
  obtain ⟨sp, sc, hsv', _, _, _, _, _⟩ := own_row H.own
  have HSV := hid hsv'
  clear hsv'
  obtain ⟨A1, hA1⟩ : ∃ A1, A1 = s.at_ + 1 := ⟨_, rfl⟩
  have hwr2 : wrap64 (s.at_ + 1) = A1 := by rw [hA1]; exact hwr
  clear hwr
  rw [← hA1] at hf hk
  clear hA1
  have HF := hid hf
  clear hf hat
  rcases hk with ⟨k1, k2, k3⟩ | ⟨k1, k2, k3, k4⟩ | ⟨k1, k2, k3, k4, k5⟩
  · have hk1 : (o.1 == 1) = true := by rw [k1]; rfl
    have HO := hid k2
    have HS := hid k3
    clear k1 k2 k3
    go_enter Try.func15, Try.ntmps15
    go_wp2_with (first
      | (go_at_call 16; refine HDN.out.mono ?_; rintro e w2 ⟨rfl, q, rfl⟩)
      | (go_at_call 37; refine (HHD.out _).mono ?_; rintro e w2 ⟨rfl, rfl⟩))
    have HQ := H.drewN q
    have OQ : Only [some d, some h, some P, sv.ownBlock] w (w.drewN q) := (Only.nil w).drewN q
    have o1' : (w.drewN q).cell? ⟨ob, oo + s.said.length * 2, none⟩ = some (i64 o.1) := o1
    have hob : ob < (w.drewN q).heap.size := hob0
    have o2' : (w.drewN q).cell? ⟨ob, oo + s.said.length * 2 + 1, none⟩ = some (i64 o.2) := o2
    generalize w.drewN q = w1 at *
    have c0 : w1.cell? ⟨h, 0, none⟩ = some (.slice (some ⟨ob, oo, none⟩) m wc) := cell_of_row w1 h 0 _ _ _ HQ.hh
    have c1 := cell_of_row w1 h 1 _ _ _ HQ.hh
    simp only [List.getElem?_toArray, List.getElem?_cons_succ, List.getElem?_cons_zero] at c1
    rw [HSV.out] at c1
    have hl1 := HQ.hh.lt
    have g0 : ∀ w', Below w1.heap.size w1 w' → w'.cell? ⟨h, 0, none⟩ = some (.slice (some ⟨ob, oo, none⟩) m wc) := fun w' hb => (hb.cell (p := ⟨h, 0, none⟩) hl1).trans c0
    have g1 : ∀ w', Below w1.heap.size w1 w' → w'.cell? ⟨h, 1, none⟩ = some (.slice sp s.said.length sc) := fun w' hb => (hb.cell (p := ⟨h, 1, none⟩) hl1).trans c1
    have g2 : ∀ w', Below w1.heap.size w1 w' → w'.cell? ⟨ob, oo + s.said.length * 2, none⟩ = some (i64 o.1) := fun w' hb => (hb.cell (p := ⟨ob, oo + s.said.length * 2, none⟩) hob).trans o1'
    have g3 : ∀ w', Below w1.heap.size w1 w' → w'.cell? ⟨ob, oo + s.said.length * 2 + 1, none⟩ = some (i64 o.2) := fun w' hb => (hb.cell (p := ⟨ob, oo + s.said.length * 2 + 1, none⟩) hob).trans o2'
    clear c0 c1 o1' o2' o1 o2
    go_region_held3 (fun w' => Below w1.heap.size w1 w') (first | exact (Below.refl _ _).drew | exact ((Below.refl _ _).drew).alloc (Nat.le_refl _) _ | assumption) (first | fail)
    have H2 := (HQ.alloc (.cells #[i64 o.1, i64 o.2] 27)).drew
    have O2 : Only [some d, some h, some P, sv.ownBlock] w (w1.alloc (.cells #[i64 o.1, i64 o.2] 27)).drew := (OQ.alloc _).drewN 1
    have n0 := cell_of_row (w1.alloc (.cells #[i64 o.1, i64 o.2] 27)).drew w1.heap.size 0 _ _ _ (heap_alloc_new w1 _)
    have n1 := cell_of_row (w1.alloc (.cells #[i64 o.1, i64 o.2] 27)).drew w1.heap.size 1 _ _ _ (heap_alloc_new w1 _)
    simp only [List.getElem?_toArray, List.getElem?_cons_zero, List.getElem?_cons_succ] at n0 n1
    have hne : ¬ w1.heap.size = h := by omega
    have hne2 : ¬ h = w1.heap.size := by omega
    generalize (w1.alloc (.cells #[i64 o.1, i64 o.2] 27)).drew = w2 at *
    have c2 := H2.ch2
    have f2 := H2.fh 2
    have H3 := H2.setAt A1
    have O3 := O2.set ⟨h, 2, none⟩ (i64 A1) (.inl (by simp))
    clear g0 g1 g2 g3 HDN HHD
    go_wp2_with (go_at_call 39; refine (push_any H3 o.2 HF.out HO.out).mono ?_; rintro e w9 ⟨rfl, hp9⟩)
    go_end0
    rw [HS.out]; exact PostS.more ⟨rfl, hp9⟩ O3
  · have hk1 : (o.1 == 1) = false := by simpa using k1
    have HO := hid k3
    have HS := hid k4
    clear k1 k3 k4
    by_cases hi0 : i = 0
    · have hk0 : ((i : Int) == 0) = true := by rw [hi0]; rfl
      clear hi0 k2
      go_enter Try.func15, Try.ntmps15
      go_wp2_with (first
        | (go_at_call 16; refine HDN.out.mono ?_; rintro e w2 ⟨rfl, q, rfl⟩)
        | (go_at_call 37; refine (HHD.out _).mono ?_; rintro e w2 ⟨rfl, rfl⟩))
      have HQ := H.drewN q
      have OQ : Only [some d, some h, some P, sv.ownBlock] w (w.drewN q) := (Only.nil w).drewN q
      have o1' : (w.drewN q).cell? ⟨ob, oo + s.said.length * 2, none⟩ = some (i64 o.1) := o1
      have hob : ob < (w.drewN q).heap.size := hob0
      have o2' : (w.drewN q).cell? ⟨ob, oo + s.said.length * 2 + 1, none⟩ = some (i64 o.2) := o2
      generalize w.drewN q = w1 at *
      have c0 : w1.cell? ⟨h, 0, none⟩ = some (.slice (some ⟨ob, oo, none⟩) m wc) := cell_of_row w1 h 0 _ _ _ HQ.hh
      have c1 := cell_of_row w1 h 1 _ _ _ HQ.hh
      simp only [List.getElem?_toArray, List.getElem?_cons_succ, List.getElem?_cons_zero] at c1
      rw [HSV.out] at c1
      have hl1 := HQ.hh.lt
      have g0 : ∀ w', Below w1.heap.size w1 w' → w'.cell? ⟨h, 0, none⟩ = some (.slice (some ⟨ob, oo, none⟩) m wc) := fun w' hb => (hb.cell (p := ⟨h, 0, none⟩) hl1).trans c0
      have g1 : ∀ w', Below w1.heap.size w1 w' → w'.cell? ⟨h, 1, none⟩ = some (.slice sp s.said.length sc) := fun w' hb => (hb.cell (p := ⟨h, 1, none⟩) hl1).trans c1
      have g2 : ∀ w', Below w1.heap.size w1 w' → w'.cell? ⟨ob, oo + s.said.length * 2, none⟩ = some (i64 o.1) := fun w' hb => (hb.cell (p := ⟨ob, oo + s.said.length * 2, none⟩) hob).trans o1'
      have g3 : ∀ w', Below w1.heap.size w1 w' → w'.cell? ⟨ob, oo + s.said.length * 2 + 1, none⟩ = some (i64 o.2) := fun w' hb => (hb.cell (p := ⟨ob, oo + s.said.length * 2 + 1, none⟩) hob).trans o2'
      clear c0 c1 o1' o2' o1 o2
      go_region_held3 (fun w' => Below w1.heap.size w1 w') (first | exact (Below.refl _ _).drew | exact ((Below.refl _ _).drew).alloc (Nat.le_refl _) _ | assumption) (first | fail)
      have H2 := (HQ.alloc (.cells #[i64 o.1, i64 o.2] 27)).drew
      have O2 : Only [some d, some h, some P, sv.ownBlock] w (w1.alloc (.cells #[i64 o.1, i64 o.2] 27)).drew := (OQ.alloc _).drewN 1
      have n0 := cell_of_row (w1.alloc (.cells #[i64 o.1, i64 o.2] 27)).drew w1.heap.size 0 _ _ _ (heap_alloc_new w1 _)
      have n1 := cell_of_row (w1.alloc (.cells #[i64 o.1, i64 o.2] 27)).drew w1.heap.size 1 _ _ _ (heap_alloc_new w1 _)
      simp only [List.getElem?_toArray, List.getElem?_cons_zero, List.getElem?_cons_succ] at n0 n1
      have hne : ¬ w1.heap.size = h := by omega
      have hne2 : ¬ h = w1.heap.size := by omega
      generalize (w1.alloc (.cells #[i64 o.1, i64 o.2] 27)).drew = w2 at *
      have c2 := H2.ch2
      have f2 := H2.fh 2
      have H3 := H2.setAt A1
      have O3 := O2.set ⟨h, 2, none⟩ (i64 A1) (.inl (by simp))
      clear g0 g1 g2 g3 HDN HHD
      go_wp2_with (go_at_call 40; refine (pop_any H3 HF.out HO.out).mono ?_; rintro e w9 ⟨rfl, hp9⟩)
      go_end0
      rw [HS.out]; exact PostS.more ⟨rfl, hp9⟩ O3
    · have hk0 : ((i : Int) == 0) = false := by rw [beq_eq_false_iff_ne]; omega
      have hk2 : (o.1 == 2) = true := by rw [beq_iff_eq]; exact k2.resolve_left hi0
      clear hi0 k2
      go_enter Try.func15, Try.ntmps15
      go_wp2_with (first
        | (go_at_call 16; refine HDN.out.mono ?_; rintro e w2 ⟨rfl, q, rfl⟩)
        | (go_at_call 37; refine (HHD.out _).mono ?_; rintro e w2 ⟨rfl, rfl⟩))
      have HQ := H.drewN q
      have OQ : Only [some d, some h, some P, sv.ownBlock] w (w.drewN q) := (Only.nil w).drewN q
      have o1' : (w.drewN q).cell? ⟨ob, oo + s.said.length * 2, none⟩ = some (i64 o.1) := o1
      have hob : ob < (w.drewN q).heap.size := hob0
      have o2' : (w.drewN q).cell? ⟨ob, oo + s.said.length * 2 + 1, none⟩ = some (i64 o.2) := o2
      generalize w.drewN q = w1 at *
      have c0 : w1.cell? ⟨h, 0, none⟩ = some (.slice (some ⟨ob, oo, none⟩) m wc) := cell_of_row w1 h 0 _ _ _ HQ.hh
      have c1 := cell_of_row w1 h 1 _ _ _ HQ.hh
      simp only [List.getElem?_toArray, List.getElem?_cons_succ, List.getElem?_cons_zero] at c1
      rw [HSV.out] at c1
      have hl1 := HQ.hh.lt
      have g0 : ∀ w', Below w1.heap.size w1 w' → w'.cell? ⟨h, 0, none⟩ = some (.slice (some ⟨ob, oo, none⟩) m wc) := fun w' hb => (hb.cell (p := ⟨h, 0, none⟩) hl1).trans c0
      have g1 : ∀ w', Below w1.heap.size w1 w' → w'.cell? ⟨h, 1, none⟩ = some (.slice sp s.said.length sc) := fun w' hb => (hb.cell (p := ⟨h, 1, none⟩) hl1).trans c1
      have g2 : ∀ w', Below w1.heap.size w1 w' → w'.cell? ⟨ob, oo + s.said.length * 2, none⟩ = some (i64 o.1) := fun w' hb => (hb.cell (p := ⟨ob, oo + s.said.length * 2, none⟩) hob).trans o1'
      have g3 : ∀ w', Below w1.heap.size w1 w' → w'.cell? ⟨ob, oo + s.said.length * 2 + 1, none⟩ = some (i64 o.2) := fun w' hb => (hb.cell (p := ⟨ob, oo + s.said.length * 2 + 1, none⟩) hob).trans o2'
      clear c0 c1 o1' o2' o1 o2
      go_region_held3 (fun w' => Below w1.heap.size w1 w') (first | exact (Below.refl _ _).drew | exact ((Below.refl _ _).drew).alloc (Nat.le_refl _) _ | assumption) (first | fail)
      have H2 := (HQ.alloc (.cells #[i64 o.1, i64 o.2] 27)).drew
      have O2 : Only [some d, some h, some P, sv.ownBlock] w (w1.alloc (.cells #[i64 o.1, i64 o.2] 27)).drew := (OQ.alloc _).drewN 1
      have n0 := cell_of_row (w1.alloc (.cells #[i64 o.1, i64 o.2] 27)).drew w1.heap.size 0 _ _ _ (heap_alloc_new w1 _)
      have n1 := cell_of_row (w1.alloc (.cells #[i64 o.1, i64 o.2] 27)).drew w1.heap.size 1 _ _ _ (heap_alloc_new w1 _)
      simp only [List.getElem?_toArray, List.getElem?_cons_zero, List.getElem?_cons_succ] at n0 n1
      have hne : ¬ w1.heap.size = h := by omega
      have hne2 : ¬ h = w1.heap.size := by omega
      generalize (w1.alloc (.cells #[i64 o.1, i64 o.2] 27)).drew = w2 at *
      have c2 := H2.ch2
      have f2 := H2.fh 2
      have H3 := H2.setAt A1
      have O3 := O2.set ⟨h, 2, none⟩ (i64 A1) (.inl (by simp))
      clear g0 g1 g2 g3 HDN HHD
      go_wp2_with (go_at_call 40; refine (pop_any H3 HF.out HO.out).mono ?_; rintro e w9 ⟨rfl, hp9⟩)
      go_end0
      rw [HS.out]; exact PostS.more ⟨rfl, hp9⟩ O3
  · have hk1 : (o.1 == 1) = false := by simpa using k1
    have hk0 : ((i : Int) == 0) = false := by rw [beq_eq_false_iff_ne]; omega
    have hk2 : (o.1 == 2) = false := by simpa using k3
    have HO := hid k4
    have HS := hid k5
    clear k1 k2 k3 k4 k5
    go_enter Try.func15, Try.ntmps15
    go_wp2_with (first
      | (go_at_call 16; refine HDN.out.mono ?_; rintro e w2 ⟨rfl, q, rfl⟩)
      | (go_at_call 37; refine (HHD.out _).mono ?_; rintro e w2 ⟨rfl, rfl⟩))
    have HQ := H.drewN q
    have OQ : Only [some d, some h, some P, sv.ownBlock] w (w.drewN q) := (Only.nil w).drewN q
    have o1' : (w.drewN q).cell? ⟨ob, oo + s.said.length * 2, none⟩ = some (i64 o.1) := o1
    have hob : ob < (w.drewN q).heap.size := hob0
    have o2' : (w.drewN q).cell? ⟨ob, oo + s.said.length * 2 + 1, none⟩ = some (i64 o.2) := o2
    generalize w.drewN q = w1 at *
    have c0 : w1.cell? ⟨h, 0, none⟩ = some (.slice (some ⟨ob, oo, none⟩) m wc) := cell_of_row w1 h 0 _ _ _ HQ.hh
    have c1 := cell_of_row w1 h 1 _ _ _ HQ.hh
    simp only [List.getElem?_toArray, List.getElem?_cons_succ, List.getElem?_cons_zero] at c1
    rw [HSV.out] at c1
    have hl1 := HQ.hh.lt
    have g0 : ∀ w', Below w1.heap.size w1 w' → w'.cell? ⟨h, 0, none⟩ = some (.slice (some ⟨ob, oo, none⟩) m wc) := fun w' hb => (hb.cell (p := ⟨h, 0, none⟩) hl1).trans c0
    have g1 : ∀ w', Below w1.heap.size w1 w' → w'.cell? ⟨h, 1, none⟩ = some (.slice sp s.said.length sc) := fun w' hb => (hb.cell (p := ⟨h, 1, none⟩) hl1).trans c1
    have g2 : ∀ w', Below w1.heap.size w1 w' → w'.cell? ⟨ob, oo + s.said.length * 2, none⟩ = some (i64 o.1) := fun w' hb => (hb.cell (p := ⟨ob, oo + s.said.length * 2, none⟩) hob).trans o1'
    have g3 : ∀ w', Below w1.heap.size w1 w' → w'.cell? ⟨ob, oo + s.said.length * 2 + 1, none⟩ = some (i64 o.2) := fun w' hb => (hb.cell (p := ⟨ob, oo + s.said.length * 2 + 1, none⟩) hob).trans o2'
    clear c0 c1 o1' o2' o1 o2
    go_region_held3 (fun w' => Below w1.heap.size w1 w') (first | exact (Below.refl _ _).drew | exact ((Below.refl _ _).drew).alloc (Nat.le_refl _) _ | assumption) (first | fail)
    have H2 := (HQ.alloc (.cells #[i64 o.1, i64 o.2] 27)).drew
    have O2 : Only [some d, some h, some P, sv.ownBlock] w (w1.alloc (.cells #[i64 o.1, i64 o.2] 27)).drew := (OQ.alloc _).drewN 1
    have n0 := cell_of_row (w1.alloc (.cells #[i64 o.1, i64 o.2] 27)).drew w1.heap.size 0 _ _ _ (heap_alloc_new w1 _)
    have n1 := cell_of_row (w1.alloc (.cells #[i64 o.1, i64 o.2] 27)).drew w1.heap.size 1 _ _ _ (heap_alloc_new w1 _)
    simp only [List.getElem?_toArray, List.getElem?_cons_zero, List.getElem?_cons_succ] at n0 n1
    have hne : ¬ w1.heap.size = h := by omega
    have hne2 : ¬ h = w1.heap.size := by omega
    generalize (w1.alloc (.cells #[i64 o.1, i64 o.2] 27)).drew = w2 at *
    have c2 := H2.ch2
    have f2 := H2.fh 2
    have H3 := H2.setAt A1
    have O3 := O2.set ⟨h, 2, none⟩ (i64 A1) (.inl (by simp))
    clear g0 g1 g2 g3 HDN HHD
    go_wp2_with (go_at_call 41; refine (steal_any H3 HF.out HO.out).mono ?_; rintro e w9 ⟨rfl, hp9⟩)
    go_end0
    rw [HS.out]; exact PostS.more ⟨rfl, hp9⟩ O3

theorem step_do (H : DqIs w base d P c hsv hb sv wv S) (i : Nat) (hi : i < S.hs.length) (hlen : S.hs.length ≤ 64) (o : Int × Int) (hop : S.hs[i].ops[S.hs[i].said.length]? = some o) (hok : okH S i S.hs[i] o) (hat : -1000 ≤ S.hs[i].at_ ∧ S.hs[i].at_ ≤ 1000) :
    Calls Try.prog 15 #[.pointer (some ⟨d, 0, none⟩), .int .i64 i] w fun e w' => e = .returned (.tuple #[]) ∧ ∃ sv', DqIs w' base d P c hsv hb sv' wv (S.upd i S.hs[i] (stepH S i S.hs[i] o)) ∧ Only [some d, some (hb i), some P, (sv i).ownBlock] w w' ∧ (∀ j g, (sv' j).ownBlock = some g → (sv j).ownBlock = some g ∨ w.heap.size ≤ g) ∧ Below base w w' := by
  have hst := H.st i hi
  have hdn := done_any H i hlen
  have hhd := fun q => hand_any (H.drewN q) (i : Int) hlen
  rw [if_pos (by omega), Int.toNat_natCast] at hhd
  obtain ⟨hso, ho⟩ := List.getElem?_eq_some_iff.1 hop
  have hnd : S.doneN i = false := by
    unfold Dq.doneN
    rw [if_pos (by omega), Int.toNat_natCast, List.getElem?_eq_getElem hi]
    simp [Hd.done]; omega
  rw [hnd] at hdn
  obtain ⟨wp, wc, hwv, hrw, _⟩ := (H.work i hi).ex
  obtain ⟨ob, oo, rfl, hob, _⟩ := hrw.at (by rw [opCells_len]; omega)
  obtain ⟨o1, o2⟩ := op_cells hrw _ hso
  rw [ho] at o1 o2
  have hst2 : St w base d (hb i) P c (.slice (some ⟨ob, oo, none⟩) S.hs[i].ops.length wc) hsv (S.ss S.hs[i]) (sv i) := by rw [← hwv]; exact hst
  have hw := step_walk hst2 i hdn hhd (by show ((S.hs[i].said.length : Nat) : Int) < _; omega) o1 o2 hob hat hok.1 (stepH S i S.hs[i] o) (by
    have h2 := hok.2
    unfold stepH
    by_cases k1 : o.1 = 1
    · rw [if_pos k1] at h2
      exact .inl ⟨k1, h2, if_pos k1⟩
    · rw [if_neg k1] at h2
      by_cases k2 : i = 0 ∨ o.1 = 2
      · rw [if_pos k2] at h2
        exact .inr (.inl ⟨k1, k2, h2, (if_neg k1).trans (if_pos k2)⟩)
      · rw [if_neg k2] at h2
        exact .inr (.inr ⟨k1, fun e => k2 (.inl e), fun e => k2 (.inr e), h2, (if_neg k1).trans (if_neg k2)⟩))
  refine hw.mono ?_
  rintro e w' ⟨rfl, sv', h1, h2, h3⟩
  rw [← hwv] at h1
  refine ⟨rfl, _, H.turn i hi _ sv' h1 h2 h3, h2, fun j g hg => ?_, H.below i hi h2⟩
  by_cases hj : j = i
  · subst hj; simp only [if_true] at hg; exact h3 g hg
  · simp only [if_neg hj] at hg; exact .inl hg

/-- One access of the worker of any number. -/
def Dq.stepN (S : Dq) (n : Int) : Dq := if S.doneN n then S else S.step n.toNat
/-- The next access of the worker of any number may be done. -/
def Dq.ok (S : Dq) (n : Int) : Prop := S.doneN n = false → ∀ (hi : n.toNat < S.hs.length), ∃ o, S.hs[n.toNat].ops[S.hs[n.toNat].said.length]? = some o ∧ okH S n.toNat S.hs[n.toNat] o ∧ -1000 ≤ S.hs[n.toNat].at_ ∧ S.hs[n.toNat].at_ ≤ 1000

set_option maxHeartbeats 1000000 in
theorem step_any (H : DqIs w base d P c hsv hb sv wv S) (n : Int) (hlen : S.hs.length ≤ 64) (hok : S.ok n) :
    Calls Try.prog 15 #[.pointer (some ⟨d, 0, none⟩), .int .i64 n] w fun e w' => e = .returned (.tuple #[]) ∧ ∃ sv', DqIs w' base d P c hsv hb sv' wv (S.stepN n) ∧ (∃ B : List (Option Nat), Only B w w' ∧ ∀ k, some k ∈ B → k = d ∨ k = P ∨ ∃ i, i < S.hs.length ∧ (k = hb i ∨ (sv i).ownBlock = some k)) ∧ (∀ j g, (sv' j).ownBlock = some g → (sv j).ownBlock = some g ∨ w.heap.size ≤ g) ∧ Below base w w' := by
  cases hd : S.doneN n with
  | true =>
    have hdn := hid (done_any H n hlen)
    rw [hd] at hdn
    have HS : Hid (S.stepN n = S) := if_pos hd
    have HH := hid H
    clear hd hok H
    go_enter Try.func15, Try.ntmps15
    go_wp2_with (go_at_call 16; refine hdn.out.mono ?_; rintro e w2 ⟨rfl, q, rfl⟩)
    refine bodyPost_ret (results_none rfl _ _ _) rfl ?_
    exact ⟨rfl, sv, by rw [HS.out]; exact HH.out.drewN q, ⟨[], (Only.refl w).drewN q, fun _ h => by cases h⟩, fun _ _ h => .inl h, below_drewN (Below.refl _ _) q⟩
  | false =>
    have hn : 0 ≤ n ∧ n < S.hs.length := by
      apply Classical.byContradiction
      intro h
      unfold Dq.doneN at hd
      rw [if_neg h] at hd; cases hd
    obtain ⟨i, rfl⟩ : ∃ i : Nat, n = i := ⟨n.toNat, by omega⟩
    have hi : i < S.hs.length := by omega
    obtain ⟨o, h1, h2, h3⟩ := hok hd (by simpa using hi)
    have e1 : (i : Int).toNat = i := Int.toNat_natCast i
    have := step_do H i hi hlen o (by simpa only [e1] using h1) (by simpa only [e1] using h2) (by simpa only [e1] using h3)
    have hs : S.stepN i = S.upd i S.hs[i] (stepH S i S.hs[i] o) := by
      unfold Dq.stepN
      rw [hd, if_neg (by simp), e1]
      unfold Dq.step
      rw [List.getElem?_eq_getElem hi]
      simp only [e1] at h1
      dsimp only
      rw [h1]
    rw [hs]
    refine this.mono ?_
    rintro e w' ⟨he, sv', h1, h2, h3, h4⟩
    refine ⟨he, sv', h1, ⟨_, h2, fun k hk => ?_⟩, h3, h4⟩
    simp only [List.mem_cons, List.not_mem_nil, or_false, Option.some.injEq] at hk
    rcases hk with h | h | h | h
    · exact .inl h
    · exact .inr (.inr ⟨i, hi, .inl h⟩)
    · exact .inr (.inl h)
    · exact .inr (.inr ⟨i, hi, .inr h.symm⟩)
end Go.Proofs.Ytpgdpddmgljpmaa
