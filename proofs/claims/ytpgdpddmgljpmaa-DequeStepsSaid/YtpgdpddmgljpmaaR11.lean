/-
  The function that lets the document's deque go on too, and compares.
-/
import Derived.Test.YtpgdpddmgljpmaaR10
import Derived.Test.YtpgdpddmgljpmaaD18
namespace Go.Proofs.Ytpgdpddmgljpmaa
open Go.RowKit
variable {W W' w : World} {c : RC} {R S : Dq} {rp fp : Nat → Prop}

theorem below_more {B : Nat} {W w1 w2 : World} (h2 : Below w1.heap.size w1 w2) (h1 : Below B W w1) (hB : B ≤ W.heap.size) : Below B W w2 := h1.trans (h2.mono (Nat.le_trans hB h1.size))
/-- What holds beside the deque: the document's, the two variables' cells. -/
structure JS (c : RC) (rc dc d : Nat) (S : Dq) (fp : Nat → Prop) (W : World) (R : Dq) (rp : Nat → Prop) : Prop where
  m : RMach W c R rp
  s : Sim S R
  ap : ∀ k, rp k → ¬ fp k
  hrc : W.heap[rc]? = some (.cells #[.pointer (some ⟨c.r, 0, none⟩)] 47 (0, 0))
  hdc : W.heap[dc]? = some (.cells #[.pointer (some ⟨d, 0, none⟩)] 30 (0, 0))
  frc : ¬ fp rc
  fdc : ¬ fp dc
  rrc : ¬ rp rc
  rdc : ¬ rp dc
theorem JS.below2 {rc dc d : Nat} {fp : Nat → Prop} (h : JS c rc dc d S fp W R rp) (hb : Below W.heap.size W W') : JS c rc dc d S fp W' R rp := by
  have lr := (Array.getElem?_eq_some_iff.1 h.hrc).1
  have ld := (Array.getElem?_eq_some_iff.1 h.hdc).1
  exact ⟨h.m.below hb, h.s, h.ap, (hb.block _ lr).trans h.hrc, (hb.block _ ld).trans h.hdc, h.frc, h.fdc, h.rrc, h.rdc⟩
def JP (c : RC) (rc dc d : Nat) (S : Dq) (fp : Nat → Prop) (W : World) : Prop := ∃ R rp, JS c rc dc d S fp W R rp
theorem js_steady {rc dc d n0 : Nat} (hn : c.n0 ≤ n0) : Steady n0 (JP c rc dc d) := by
  rintro S fp fp' W W' ⟨R, rp, h⟩ ht hb hlt hf
  have hl := h.m
  obtain ⟨av, h1, h2, h3⟩ := hl
  have lr := (Array.getElem?_eq_some_iff.1 h.hrc).1
  have ld := (Array.getElem?_eq_some_iff.1 h.hdc).1
  refine ⟨R, rp, h.m.kept (fun k hk => ht.block k (h3 k hk) (h.ap k hk)) (fun k hk => hb.block k (by omega)) ht.size, h.s, fun k hk hk' => ?_, (ht.block _ lr h.frc).trans h.hrc, (ht.block _ ld h.fdc).trans h.hdc, fun hk => ?_, fun hk => ?_, h.rrc, h.rdc⟩
  · rcases hf k hk' with h5 | h5
    · exact h.ap k hk h5
    · have := h3 k hk; omega
  · rcases hf _ hk with h5 | h5
    · exact h.frc h5
    · omega
  · rcases hf _ hk with h5 | h5
    · exact h.fdc h5
    · omega
theorem eqA_same {p q : Option Addr} {c d n m : Nat} {l : List (Bool × Int)} (hn : l.length = n) (hm : l.length = m) (h1 : Row w p (ansCells l)) (h2 : Row w q (ansCells l)) (hl : l.length ≤ 1000000) :
    Calls Try.prog 25 #[.slice p n c, .slice q m d] w fun e w' => e = .returned (.bool true) ∧ Below w.heap.size w w' := by
  subst hn; subst hm
  have := eqA_any p q c d l l w h1 h2 (by unfold maxLen; omega) (by unfold maxLen; omega)
  simpa using this
theorem eqL_same {p q : Option Addr} {c d n m : Nat} {l : List Int} (hn : l.length = n) (hm : l.length = m) (h1 : Row w p (l.map i64)) (h2 : Row w q (l.map i64)) (hl : l.length ≤ 1000000) :
    Calls Try.prog 17 #[.slice p n c, .slice q m d] w fun e w' => e = .returned (.bool true) ∧ Below w.heap.size w w' := by
  subst hn; subst hm
  have := eqL_any p q c d l l w h1 h2 (by unfold maxLen; omega) (by unfold maxLen; omega)
  simpa using this

set_option maxRecDepth 100000 in
set_option maxHeartbeats 8000000 in
theorem each21 {w0 : World} {rc dc d : Nat} (hn0 : c.n0 ≤ w0.heap.size) (hn1 : w0.heap.size ≤ c.base) : Each 21 (fun n => #[.int .i64 n, .pointer (some ⟨rc, 0, none⟩), .pointer (some ⟨dc, 0, none⟩)]) w0 d (JP c rc dc d) := by
  rintro S fp W n hg hg2 hlen hc hw hn2 hn3 hb hm ⟨R, rp, hj⟩
  dsimp only
  obtain ⟨S', hS'⟩ : ∃ S', S' = S.stepN n := ⟨_, rfl⟩
  have hl' : S'.hs.length ≤ 64 ∧ S'.count ≤ 1000000 := by
    have := hg.stepN (by omega) n
    rw [hS']; exact ⟨by rw [this.2.1]; exact hlen, by omega⟩
  have hsim := hj.s.stepN hg (by omega) n
  have hst := hid (rmach_step hj.m hj.s hg hlen (by omega) n)
  rw [← hS'] at hg2 hm hsim ⊢
  have HJ := hid hj
  have HM := hid hm
  have HG := hid hg2
  have HSIM := hid hsim
  have HB := hid hb
  have c1 : W.cell? ⟨rc, 0, none⟩ = some (.pointer (some ⟨c.r, 0, none⟩)) := cell_of_row W rc 0 _ _ _ hj.hrc
  have HN1 := hid hn1
  clear hj hm hg2 hsim hb hw hS' hg hlen hc hn0 hn1
  -- behind the document's access
  have key : Hid (∀ W1 rp', RMach W1 c (R.rstepN n) rp' → (∀ k, rp' k → rp k ∨ W.heap.size ≤ k) → Turn rp W W1 → Below c.base W W1 → Mach W1 w0.heap.size d S' fp ∧ JS c rc dc d S' fp W1 (R.rstepN n) rp' ∧ Below w0.heap.size w0 W1) := by
    intro W1 rp' k1 k2 k3 k4
    obtain ⟨P, q2, q3, q4, q5, q6, m1, m2, m3⟩ := HM.out
    have lr := (Array.getElem?_eq_some_iff.1 HJ.out.hrc).1
    have ld := (Array.getElem?_eq_some_iff.1 HJ.out.hdc).1
    refine ⟨HM.out.kept (fun k hk => k3.block k (m3 k hk) (fun h => HJ.out.ap k h hk)) k3.size, ⟨k1, HSIM.out, fun k hk hk2 => ?_, (k3.block _ lr HJ.out.rrc).trans HJ.out.hrc, (k3.block _ ld HJ.out.rdc).trans HJ.out.hdc, HJ.out.frc, HJ.out.fdc, fun hk => ?_, fun hk => ?_⟩, HB.out.trans (k4.mono HN1.out)⟩
    · rcases k2 k hk with h | h
      · exact HJ.out.ap k h hk2
      · have := m3 k hk2; omega
    · rcases k2 _ hk with h | h
      · exact HJ.out.rrc h
      · omega
    · rcases k2 _ hk with h | h
      · exact HJ.out.rdc h
      · omega
  go_enter Try.func21, Try.ntmps21
  go_upto_region 2 with (go_at_call 22; refine hst.out.mono ?_; rintro e W1 ⟨rfl, rp', k1, k2, k3, k4⟩; have HK := hid (key.out W1 rp' k1 k2 k3 k4); clear k1 k2 k3 k4)
  clear c1 key hst
  have HMS := hid HK.out.1
  have HJS := hid HK.out.2.1
  have HBW := hid HK.out.2.2
  have lr := (Array.getElem?_eq_some_iff.1 HJS.out.hrc).1
  have ld := (Array.getElem?_eq_some_iff.1 HJS.out.hdc).1
  have g1 : ∀ w', Below W1.heap.size W1 w' → w'.cell? ⟨rc, 0, none⟩ = some (.pointer (some ⟨c.r, 0, none⟩)) := fun w' hb => (hb.cell (p := ⟨rc, 0, none⟩) lr).trans (cell_of_row W1 rc 0 _ _ _ HJS.out.hrc)
  have g2 : ∀ w', Below W1.heap.size W1 w' → w'.cell? ⟨dc, 0, none⟩ = some (.pointer (some ⟨d, 0, none⟩)) := fun w' hb => (hb.cell (p := ⟨dc, 0, none⟩) ld).trans (cell_of_row W1 dc 0 _ _ _ HJS.out.hdc)
  have hal : (S'.answers n).length ≤ 1000000 := by
    obtain ⟨L, p, x0, th', hI⟩ := HG.out
    unfold Dq.answers
    split
    · rename_i hk
      have hi : n.toNat < S'.hs.length := by omega
      rw [List.getElem?_eq_getElem hi]
      exact Nat.le_trans (hI.len _ (List.getElem_mem hi)) (Nat.le_trans (hI.few _ (List.getElem_mem hi)) (by decide))
    · simp
  have hll : S'.left.length ≤ 1000000 := by
    obtain ⟨L, p, x0, th', hI⟩ := HG.out
    have hbl : L - 1 ≤ S'.bottom ∧ S'.bottom ≤ L := by
      rcases hI.own with ⟨_, h, _⟩ | ⟨_, _, ⟨_, _, h, _⟩ | ⟨_, h, h', _⟩⟩ <;> omega
    have := hI.room
    have := hI.r2
    show (leftP _ _ _).length ≤ 1000000
    rw [leftP_len]; omega
  have C16 := hid (fun w' (hb : Below W1.heap.size W1 w') => mach_done (HMS.out.below hb) hl'.1 n)
  have C23 := hid (fun w' (hb : Below W1.heap.size W1 w') => rmach_done (HJS.out.m.below hb) HJS.out.s hl'.1 n)
  have C14 := hid (fun w' (hb : Below W1.heap.size W1 w') => mach_answers (HMS.out.below hb) HG.out hl'.1 n)
  have C26 := hid (fun w' (hb : Below W1.heap.size W1 w') => rmach_answers (HJS.out.m.below hb) HJS.out.s hl'.1 n)
  have C18 := hid (fun w' (hb : Below W1.heap.size W1 w') => mach_left (HMS.out.below hb) HG.out hl'.2)
  have C27 := hid (fun w' (hb : Below W1.heap.size W1 w') => rmach_left (HJS.out.m.below hb) HJS.out.s HG.out hl'.2)
  have C28 := hid (fun w' (hb : Below W1.heap.size W1 w') => mach_steps (HMS.out.below hb))
  have C29 := hid (fun w' (hb : Below W1.heap.size W1 w') => rmach_steps (HJS.out.m.below hb) HJS.out.s)
  have HANS : Hid (∀ e w', AnsRef w' S' n e w' → ∃ p ac, e = .returned (.slice p (S'.answers n).length ac) ∧ Row w' p (ansCells (S'.answers n))) := fun e w' h => h.1
  generalize hdn : S'.doneN n = dn at *
  have hdd : (dn == dn) = true := by cases dn <;> rfl
  generalize hcn : S'.count = cn at *
  have hcc : (cn == cn) = true := by simp
  clear hdn hcn
  go_region_held3 (fun w' => Below W1.heap.size W1 w') (first | assumption | exact below_drewN (Below.refl _ W1) _ | exact (Below.refl _ _).drew)
    (first
      | (go_at_call 16; refine (C16.out _ (by first | assumption | exact below_drewN (Below.refl _ W1) _ | exact (Below.refl _ W1).drew)).mono ?_; rintro e w2 ⟨rfl, q, rfl⟩)
      | (go_at_call 23; refine (C23.out _ (by first | assumption | exact below_drewN (Below.refl _ W1) _ | exact (Below.refl _ W1).drew)).mono ?_; rintro e w2 ⟨rfl, q3, rfl⟩)
      | (go_at_call 24; refine (Try_waits _ _ _).mono ?_; rintro e w2 ⟨rfl, hw2⟩; subst hw2)
      | (go_at_call 14; refine (C14.out _ (by first | assumption | exact below_drewN (Below.refl _ W1) _ | exact (Below.refl _ W1).drew)).mono ?_; rintro e w14 ⟨v14, rfl, ho14, hb14⟩; obtain ⟨p14, c14, rfl, _, _, hr14, _, _⟩ := own_row ho14; have HR14 := hid hr14; have hq14 := below_more hb14 (by first | assumption | exact below_drewN (Below.refl _ W1) _ | exact (Below.refl _ W1).drew) (Nat.le_refl _); clear ho14 hr14)
      | (go_at_call 26; refine (C26.out _ (by first | assumption | exact below_drewN (Below.refl _ W1) _ | exact (Below.refl _ W1).drew)).mono ?_; intro e w26 ha26; obtain ⟨⟨p26, c26, rfl, hr26⟩, hw26⟩ := ha26; have HR26 := hid hr26; clear hr26; subst hw26)
      | (go_at_call 25; refine (eqA_same rfl rfl HR14.out HR26.out hal).mono ?_; rintro e w25 ⟨rfl, hb25⟩; have hq25 := below_more hb25 (by first | assumption | exact below_drewN (Below.refl _ W1) _ | exact (Below.refl _ W1).drew) (Nat.le_refl _); clear hb25)
      | (go_at_call 18; refine (C18.out _ (by first | assumption | exact below_drewN (Below.refl _ W1) _ | exact (Below.refl _ W1).drew)).mono ?_; rintro e w18 ⟨v18, rfl, ho18, hb18⟩; obtain ⟨p18, c18, rfl, _, _, hr18, _, _⟩ := own_row ho18; have HR18 := hid hr18; have hq18 := below_more hb18 (by first | assumption | exact below_drewN (Below.refl _ W1) _ | exact (Below.refl _ W1).drew) (Nat.le_refl _); clear ho18 hr18)
      | (go_at_call 27; refine (C27.out _ (by first | assumption | exact below_drewN (Below.refl _ W1) _ | exact (Below.refl _ W1).drew)).mono ?_; rintro e w27 ⟨v27, rfl, ho27, hb27⟩; obtain ⟨p27, c27, rfl, _, _, hr27, _, _⟩ := own_row ho27; have HR27 := hid hr27; have HB27 := hid hb27; have hq27 := below_more hb27 (by first | assumption | exact below_drewN (Below.refl _ W1) _ | exact (Below.refl _ W1).drew) (Nat.le_refl _); clear ho27 hr27 hb27)
      | (go_at_call 17; refine (eqL_same rfl rfl (HR18.out.below HB27.out) HR27.out hll).mono ?_; rintro e w17 ⟨rfl, hb17⟩; have hq17 := below_more hb17 (by first | assumption | exact below_drewN (Below.refl _ W1) _ | exact (Below.refl _ W1).drew) (Nat.le_refl _); clear hb17)
      | (go_at_call 28; refine (C28.out _ (by first | assumption | exact below_drewN (Below.refl _ W1) _ | exact (Below.refl _ W1).drew)).mono ?_; rintro e w28 ⟨rfl, hw28⟩; subst hw28)
      | (go_at_call 29; refine (C29.out _ (by first | assumption | exact below_drewN (Below.refl _ W1) _ | exact (Below.refl _ W1).drew)).mono ?_; rintro e w29 ⟨rfl, hw29⟩; subst hw29))
  go_wp2_with fail
  go_ret
  have hbW := hq17
  exact ⟨rfl, fp, HMS.out.below hbW, ⟨_, _, HJS.out.below2 hbW⟩, HBW.out.trans (hbW.mono HBW.out.size)⟩
end Go.Proofs.Ytpgdpddmgljpmaa
