/-
  The document's table: end.
  The document's table: unlock.
  The document's table: Step, state 1 (printed by genrstep.py).
-/
import Derived.Test.YtabkmdhkfbcldaaJT0
namespace Go.Proofs.Ytabkmdhkfbcldaa
open Go.RowKit
variable {W W' : World} {base r : Nat} {K : Wk} {S : Sh} {B : RB}

/-- What a step of the document's table does: the new table, and what may have changed. -/
def RStep (W : World) (base r : Nat) (K : Wk) (B : RB) (S' : Sh) (e : Ending) (w' : World) : Prop :=
  e = .returned (.tuple #[]) ∧ ∃ B', RIs w' base r K S' B' ∧ (∀ b, B'.fp r b → B.fp r b ∨ W.heap.size ≤ b) ∧ But (B.fp r) W w' ∧ Below base W w'
theorem But.setCell {X : Nat → Prop} (h : But X W W') (a : Addr) (v : Value) (hx : X a.block) : But X W (W'.setCell a v) :=
  ⟨fun b hl hn => (Below.heap_setCell W' a v b (fun e => hn (e ▸ hx))).trans (h.keep b hl hn), by simp; exact h.size⟩
theorem But.refl {X : Nat → Prop} (W : World) : But X W W := ⟨fun _ _ _ => rfl, Nat.le_refl _⟩
theorem But.drew {X : Nat → Prop} (h : But X W W') : But X W W'.drew := ⟨fun b hl hn => h.keep b hl hn, h.size⟩
theorem But.drewN {X : Nat → Prop} (h : But X W W') (q : Nat) : But X W (W'.drewN q) := ⟨fun b hl hn => h.keep b hl hn, h.size⟩
theorem setIdem {α : Type} (l : List α) (i : Nat) (x y : α) : (l.set i x).set i y = l.set i y := by simp
theorem cAt_setAt (l : List Cl) (i : Nat) (hi : i < l.length) (c : Cl) : cAt (l.set i c) i = c := by rw [cAt_set _ _ _ _ hi, if_pos rfl]
/-- The table behind end's stores. -/
theorem RIs.ended (h : RIs W base r K S B) {g c : Nat} (hv : B.vc = .slice (some ⟨g, 0, none⟩) S.calls.length c) (k : Nat) (hk : k < K.work.length) (hcl : (S.hand k).call < S.calls.length) (n e : Int) :
    RIs (((((((W.setCell ⟨g, (S.hand k).call * 8 + 5, none⟩ (.int .i64 ((S.steps : Nat) + 1))).setCell ⟨g, (S.hand k).call * 8 + 6, none⟩ (.int .i64 n)).setCell ⟨g, (S.hand k).call * 8 + 7, none⟩ (.int .i64 e)).setCell ⟨B.bn, k, none⟩ (.int .i64 ((S.next.getD k 0 : Nat) + 1))).setCell ⟨B.bh, k * 3, none⟩ (.int .i64 0)).setCell ⟨B.bh, k * 3 + 1, none⟩ (.bool false)).setCell ⟨B.bh, k * 3 + 2, none⟩ (.int .i64 0)) base r K (S.endN k n e) B := by
  generalize hx : (S.hand k).call = x at *
  have hkl : k < S.hands.length := by rw [h.hnl]; exact hk
  have s1 := h.setCall hv x hcl 5 (by omega) (.int .i64 ((S.steps : Nat) + 1)) { cAt S.calls x with «to» := S.steps + 1 } rfl
  have s2 := s1.setCall (by rw [List.length_set]; exact hv) x (by rw [List.length_set]; exact hcl) 6 (by omega) (.int .i64 n) { cAt S.calls x with «to» := S.steps + 1, ans := n } (by show _ = (cAt (S.calls.set x _) x).cells.set 6 _; rw [cAt_setAt _ _ hcl]; rfl)
  have s3 := s2.setCall (by simp; exact hv) x (by simp; exact hcl) 7 (by omega) (.int .i64 e) { cAt S.calls x with «to» := S.steps + 1, ans := n, err := e } (by show _ = (cAt ((S.calls.set x _).set x _) x).cells.set 7 _; rw [setIdem, cAt_setAt _ _ hcl]; rfl)
  have s4 := s3.setNext k (S.next.getD k 0 + 1)
  have s5 := s4.setHand k hkl 0 (by omega) (.int .i64 0) ⟨0, (S.hand k).found, (S.hand k).call⟩ rfl
  have s6 := s5.setHand k (by rw [List.length_set]; exact hkl) 1 (by omega) (.bool false) ⟨0, false, (S.hand k).call⟩ (by show _ = ((S.hands.set k _).getD k hn0).cells.set 1 _; rw [getD_set _ _ hkl, if_pos rfl]; rfl)
  have s7 := s6.setHand k (by simp; exact hkl) 2 (by omega) (.int .i64 0) hn0 (by show _ = (((S.hands.set k _).set k _).getD k hn0).cells.set 2 _; rw [getD_set _ _ (by rw [List.length_set]; exact hkl), if_pos rfl]; rfl)
  have eS : ({ S with calls := (((S.calls.set x { cAt S.calls x with «to» := S.steps + 1 }).set x { cAt S.calls x with «to» := S.steps + 1, ans := n }).set x { cAt S.calls x with «to» := S.steps + 1, ans := n, err := e }), next := S.next.set k (S.next.getD k 0 + 1), hands := ((S.hands.set k ⟨0, (S.hand k).found, (S.hand k).call⟩).set k ⟨0, false, (S.hand k).call⟩).set k hn0 } : Sh) = S.endN k n e := by
    unfold Sh.endN
    rw [hx]
    simp
  rw [eS] at s7
  exact s7
set_option maxRecDepth 20000 in
set_option maxHeartbeats 2000000 in
theorem rend (h : RIs W base r K S B) (k : Nat) (hk : k < K.work.length) (hcl : (S.hand k).call < S.calls.length) (hst : S.steps ≤ 1000000) (hnx : S.next.getD k 0 ≤ 1000000) (n e : Int) :
    Calls Try.prog 45 #[.pointer (some ⟨r, 0, none⟩), .int .i64 (k : Nat), .int .i64 n, .int .i64 e] W fun e' w' => e' = .returned (.tuple #[]) ∧ RIs w' base r K (S.endN k n e) B ∧ But (B.fp r) W w' ∧ Below base W w' := by
  obtain ⟨c0, c1, c2, c3, c4, c5, c6, c7⟩ := h.cells
  obtain ⟨f0, f1, f2⟩ := h.handAt hk
  have d1 := h.nextAt hk
  obtain ⟨g, c, hv, hgb, hgl, hgc, hcm⟩ := own_block h.calls (by omega)
  have ho := h.calls
  rw [hv] at c6 ho
  have ef := own_cell ho
  have hfl := flat_len Cl.cells 8 (fun _ => rfl) S.calls
  have hlt := h.lt
  have fz0 : W.frozen? ⟨B.bn, k, none⟩ = false := frozen_of_row _ _ _ _ _ h.nexts
  have fh0 : W.frozen? ⟨B.bh, k * 3, none⟩ = false := frozen_of_row _ _ _ _ _ h.hands
  have fh1 : W.frozen? ⟨B.bh, k * 3 + 1, none⟩ = false := frozen_of_row _ _ _ _ _ h.hands
  have fh2 : W.frozen? ⟨B.bh, k * 3 + 2, none⟩ = false := frozen_of_row _ _ _ _ _ h.hands
  have tg := own_tag h.calls (show B.vc.ownBlock = some g by rw [hv]; rfl)
  have hng : B.bn ≠ g := tag_ne h.tagN tg (by decide)
  have hhg : B.bh ≠ g := tag_ne h.tagH tg (by decide)
  have hrg : r ≠ g := tag_ne h.tagR tg (by decide)
  have hrn : r ≠ B.bn := tag_ne h.tagR h.tagN (by decide)
  have hrh : r ≠ B.bh := tag_ne h.tagR h.tagH (by decide)
  have hhn : B.bh ≠ B.bn := tag_ne h.tagH h.tagN (by decide)
  have HE := hid (fun q => (h.below (below_drewN (Below.refl _ _) q)).ended hv k hk hcl n e)
  have HF := hid (show B.vc.ownBlock = some g by rw [hv]; rfl)
  have HGE := hid (And.intro h.ge hgb)
  obtain ⟨v5, e5, f5⟩ : ∃ v, W.cell? ⟨g, (S.hand k).call * 8 + 5, none⟩ = some v ∧ W.frozen? ⟨g, (S.hand k).call * 8 + 5, none⟩ = false := ⟨_, ef ((S.hand k).call * 8 + 5) (by omega)⟩
  obtain ⟨v6, e6, f6⟩ : ∃ v, W.cell? ⟨g, (S.hand k).call * 8 + 6, none⟩ = some v ∧ W.frozen? ⟨g, (S.hand k).call * 8 + 6, none⟩ = false := ⟨_, ef ((S.hand k).call * 8 + 6) (by omega)⟩
  obtain ⟨v7, e7, f7⟩ : ∃ v, W.cell? ⟨g, (S.hand k).call * 8 + 7, none⟩ = some v ∧ W.frozen? ⟨g, (S.hand k).call * 8 + 7, none⟩ = false := ⟨_, ef ((S.hand k).call * 8 + 7) (by omega)⟩
  have hkI : (k : Int) < K.work.length := by omega
  have HV := hid hv
  clear ef hfl ho h hv tg c0 c1 c2 c3
  generalize (S.hand k).call = x at *
  generalize S.next.getD k 0 = y at *
  generalize S.calls.length = nl at *
  generalize S.steps = st at *
  have hxI : (x : Int) < nl := by omega
  go_enter Try.func45, Try.ntmps45
  go_upto_region 0 with fail
  go_quiet (fail)
  go_wp2_with fail
  refine bodyPost_end (v := .tuple #[]) (by simp [results, Try.results45, go_sem]) rfl ?_
  have hX : ∀ b, b = g → B.fp r b := fun b hb => .inr (.inr (.inr (.inr (.inr (by rw [hb]; exact HF.out)))))
  have hN : B.fp r B.bn := .inr (.inr (.inl rfl))
  have hH : B.fp r B.bh := .inr (.inr (.inr (.inl rfl)))
  obtain ⟨⟨ge0, ge1, ge2, ge3⟩, geg⟩ := HGE.out
  refine ⟨rfl, HE.out _, ?_, ?_⟩
  · exact (((((((But.of_below (below_drewN (Below.refl _ _) _)).setCell _ _ (hX _ rfl)).setCell _ _ (hX _ rfl)).setCell _ _ (hX _ rfl)).setCell _ _ hN).setCell _ _ hH).setCell _ _ hH).setCell _ _ hH
  · exact (((((((below_drewN (Below.refl _ _) _).setCell geg _).setCell geg _).setCell geg _).setCell ge2 _).setCell ge3 _).setCell ge3 _).setCell ge3 _
end Go.Proofs.Ytabkmdhkfbcldaa
namespace Go.Proofs.Ytabkmdhkfbcldaa
open Go.RowKit
variable {W W' : World} {base r : Nat} {K : Wk} {S : Sh} {B : RB}

/-- What unlock makes of the table. -/
def Sh.unl (K : Wk) (S : Sh) (w : Nat) : Sh :=
  match endOf2 (S.ask K w) (S.hand w).found (S.get (S.ask K w).key) with
  | some (n, e) => (S.setL K w (-1)).endN w n e
  | none => (S.setL K w (-1)).setH w { S.hand w with at_ := 5 }
structure ULI (W : World) (base r : Nat) (K : Wk) (S : Sh) (B : RB) (ak : Ak) (wx : World) : Prop where
  is : RIs wx base r K S B
  a : wx.heap[W.heap.size]? = some (.cells #[.int .i64 ak.kind, .string ak.key, .int .i64 ak.value] 70 (0, 0))
  but : But (B.fp r) W wx
  b : Below base W wx
set_option maxRecDepth 20000 in
set_option maxHeartbeats 4000000 in
theorem runlock (h : RIs W base r K S B) (hbs : base ≤ W.heap.size) (HK : WkOk K) (k : Nat) (hk : k < K.work.length) (hn : S.next.getD k 0 < (K.own k).length) (hcl : (S.hand k).call < S.calls.length) (hst : S.steps ≤ 1000000) (hsz : (K.own k).length ≤ 1000000) (hl : S.rows.length ≤ 1000000)
    (hget : (S.hand k).found = true → S.get (S.ask K k).key ≠ none) :
    Calls Try.prog 44 #[.pointer (some ⟨r, 0, none⟩), .int .i64 (k : Nat), .agg #[.int .i64 (S.ask K k).kind, .string (S.ask K k).key, .int .i64 (S.ask K k).value]] W fun e' w' => e' = .returned (.tuple #[]) ∧ RIs w' base r K (S.unl K k) B ∧ But (B.fp r) W w' ∧ Below base W w' := by
  have hkey := HK.keys k _ (ask_mem hn)
  obtain ⟨ak, hak⟩ : ∃ ak, ak = S.ask K k := ⟨_, rfl⟩
  have hunl : S.unl K k = match endOf2 ak (S.hand k).found (S.get ak.key) with | some (n, e) => (S.setL K k (-1)).endN k n e | none => (S.setL K k (-1)).setH k { S.hand k with at_ := 5 } := by rw [hak]; rfl
  rw [← hak] at hkey hget ⊢
  have HAK := hid hak
  have HUN := hid hunl
  obtain ⟨S2, hS2⟩ : ∃ S2, S2 = S.unl K k := ⟨_, rfl⟩
  rw [← hS2]
  have HS2 := hid (hS2.trans hunl)
  clear hS2 hunl HUN
  obtain ⟨W2, hW2⟩ : ∃ W2, W2 = W.alloc (.cells #[.int .i64 ak.kind, .string ak.key, .int .i64 ak.value] 70) := ⟨_, rfl⟩
  have hb2 : Below W.heap.size W W2 := by rw [hW2]; exact (Below.refl _ _).alloc (Nat.le_refl _) _
  have hA2 : W2.heap[W.heap.size]? = some (.cells #[.int .i64 ak.kind, .string ak.key, .int .i64 ak.value] 70 (0, 0)) := by rw [hW2]; exact heap_alloc_new W _
  have hz2 : W2.heap.size = W.heap.size + 1 := by rw [hW2]; simp
  have h2 := h.below hb2
  have HB2 := hid hb2
  have HH2 := hid h2
  have HA2 := hid hA2
  obtain ⟨c0, c1, c2, c3, c4, c5, c6, c7⟩ := h2.cells
  have cl0 := h2.lockAt (TabIs.shLt HK ak.key)
  have fl0 : W2.frozen? ⟨B.bl, K.of ak.key, none⟩ = false := frozen_of_row _ _ _ _ _ h2.locks
  have a1 := cell_of_row _ _ 1 _ _ _ hA2
  simp only [List.getElem?_toArray, List.getElem?_cons_zero, List.getElem?_cons_succ] at a1
  have HO := hid (fun (w1 : World) => rof2_any ak.key (K.shards : Nat) w1 (by omega) (by have := HK.sh; omega))
  rw [← HK.ofs] at HO
  have hsh : (K.of ak.key : Int) < K.shards := by have := TabIs.shLt HK ak.key; omega
  have hkI : (k : Int) < K.work.length := by omega
  have HFL := hid (And.intro hcl (And.intro hst (And.intro hl (And.intro hsz (And.intro hn hbs)))))
  have HGE := hid hget
  have hrl : r ≠ B.bl := tag_ne h2.tagR h2.tagL (by decide)
  have hal : W.heap.size ≠ B.bl := by have := h.lt.2.1; omega
  have hltr := h2.lt
  have HNE := hid (And.intro hrl (And.intro hal hltr))
  have g0 : ∀ w' : World, But (fun b => b = B.bl) W2 w' → w'.cell? ⟨r, 0, none⟩ = some (.int .i64 K.shards) := fun w' hs => (World.cell?_of_block (a := ⟨r, 0, none⟩) (hs.keep r hltr.1 hrl)).trans c0
  have g1 : ∀ w' : World, But (fun b => b = B.bl) W2 w' → w'.cell? ⟨r, 1, none⟩ = some (.slice (some ⟨B.bl, 0, none⟩) K.shards K.shards) := fun w' hs => (World.cell?_of_block (a := ⟨r, 1, none⟩) (hs.keep r hltr.1 hrl)).trans c1
  have ga : ∀ w' : World, But (fun b => b = B.bl) W2 w' → w'.cell? ⟨W.heap.size, 1, none⟩ = some (.string ak.key) := fun w' hs => (World.cell?_of_block (a := ⟨W.heap.size, 1, none⟩) (hs.keep W.heap.size (by omega) hal)).trans a1
  have HS0 : Hid (But (fun b => b = B.bl) W2 W2) := But.refl W2
  obtain ⟨cl, hcle⟩ : ∃ cl, cl = K.of ak.key := ⟨_, rfl⟩
  rw [← hcle] at cl0 fl0 HO hsh
  have HCL := hid hcle
  have HUL : Hid (ULI W base r K (S.setL K k (-1)) B ak (W2.setCell ⟨B.bl, cl, none⟩ (.int .i64 (-1))).drew) := by
    have h3 := h2.setLock cl (-1)
    have e : ({ S with locks := S.locks.set cl (-1) } : Sh) = S.setL K k (-1) := by unfold Sh.setL; rw [← hak, hcle]
    rw [e] at h3
    have hdr : ∀ w : World, Below w.heap.size w w.drew := fun w => (Below.refl _ _).drew
    refine ⟨h3.below (hdr _), ?_, ?_, ?_⟩
    · exact (heap_setCell_other _ _ _ _ hal).trans hA2
    · exact ((But.of_below hb2).setCell _ _ (.inr (.inl rfl))).drew
    · exact ((hb2.mono hbs).setCell h.ge.2.1 _).drew
  clear h h2 hA2 hb2 a1 hcle hcl hst hl hsz hn hget hbs hkey HK hltr hak c2 c3 c4 c6 c7
  go_enter Try.func44, Try.ntmps44
  go_upto_region 1 with fail
  rw [← hW2]
  clear hW2
  go_upto_region 2 with fail
  go_cut [6] (fun p wx => p = .pointer (some ⟨B.bh, k * 3, none⟩) ∧ ULI W base r K (S.setL K k (-1)) B ak wx)
  case first =>
    go_region_held3 (fun w' : World => But (fun b => b = B.bl) W2 w') (first | (with_reducible assumption) | (with_reducible exact HS0.out) | (with_reducible exact HS0.out.drew) | (with_reducible exact (HS0.out.setCell _ _ rfl)) | (with_reducible exact (HS0.out.setCell _ _ rfl).drew) | (with_reducible exact (HS0.out.drew.setCell _ _ rfl))) (first | (go_at_call 11; with_reducible refine (HO.out _).mono ?_; rintro e w' ⟨rfl, rfl⟩))
    all_goals
      go_wp2_with fail
      go_meet
      exact ⟨rfl, HUL.out⟩
  case rest =>
    obtain ⟨rfl, hul⟩ := hcut
    have HUL2 := hid hul
    obtain ⟨hcl, hst, hl, hsz, hn, hbs⟩ := HFL.out
    have HR := hid (rrow hul.is (show (S.setL K k (-1)).rows.length ≤ 1000000 from hl) ak.key)
    have HRE := hid (fun (n e : Int) => rend hul.is k hk hcl hst (by show S.next.getD k 0 ≤ 1000000; omega) n e)
    obtain ⟨p0, p1, p2, p3, p4, p5, p6, p7⟩ := hul.is.cells
    obtain ⟨f0, f1, f2⟩ := hul.is.handAt hk
    have ff0 : wc.frozen? ⟨B.bh, k * 3, none⟩ = false := frozen_of_row _ _ _ _ _ hul.is.hands
    have y0 := cell_of_row _ _ 0 _ _ _ hul.a
    have y1 := cell_of_row _ _ 1 _ _ _ hul.a
    simp only [List.getElem?_toArray, List.getElem?_cons_zero, List.getElem?_cons_succ] at y0 y1
    have hh : (S.setL K k (-1)).hand k = S.hand k := rfl
    have hrs : (S.setL K k (-1)).rows = S.rows := rfl
    have hsh5 := hul.is.setHand k (by show k < S.hands.length; have := hul.is.hnl; have h9 : S.hands.length = K.work.length := this; omega) 0 (by omega) (.int .i64 5) ⟨5, (S.hand k).found, (S.hand k).call⟩ rfl
    rw [hh] at f0 f1 f2
    rw [hrs] at HR
    have HS5 := hid hsh5
    obtain ⟨pr, cr, hvr, hrow⟩ := own_shape hul.is.rows
    rw [hrs] at hvr hrow
    rw [hvr] at p2
    have hc2 := HS2.out
    unfold Hid at hc2
    clear HUL hul hh hrs hsh5 g0 g1 ga c0 c1 c5 cl0 fl0 hcl hst hsz hbs HS2
    obtain ⟨fo, hfo⟩ : ∃ fo, fo = (S.hand k).found := ⟨_, rfl⟩
    have HFO := hid hfo
    rw [← hfo] at hc2 f1 HS5
    clear hfo
    by_cases hk1 : ak.kind = 1
    · cases fo with
      | true =>
        have hc3 : S2 = (S.setL K k (-1)).endN k 0 5 := by rw [hc2]; unfold endOf2; rw [if_pos hk1]; rfl
        have HC3 := hid hc3
        clear hc2 hc3
        rw [hk1] at y0
        go_wp2_with (first
          | (go_at_call 43; (with_reducible refine HR.out.mono ?_); rintro e w3 ⟨rfl, hw3⟩; subst hw3)
          | (go_at_call 45; (with_reducible refine (HRE.out _ _).mono ?_); rintro e w4 ⟨rfl, hr4, hb4, hl4⟩; have HR4 := hid hr4; have HB4 := hid hb4; have HL4 := hid hl4; clear hr4 hb4 hl4))
        refine bodyPost_end (v := .tuple #[]) (by simp [results, Try.results44, go_sem]) rfl ?_
        exact ⟨rfl, by rw [HC3.out]; exact HR4.out, HUL2.out.but.trans HB4.out, HUL2.out.b.trans HL4.out⟩
      | false =>
        have hc3 : S2 = (S.setL K k (-1)).endN k 0 0 := by rw [hc2]; unfold endOf2; rw [if_pos hk1]; rfl
        have HC3 := hid hc3
        clear hc2 hc3
        rw [hk1] at y0
        go_wp2_with (first
          | (go_at_call 43; (with_reducible refine HR.out.mono ?_); rintro e w3 ⟨rfl, hw3⟩; subst hw3)
          | (go_at_call 45; (with_reducible refine (HRE.out _ _).mono ?_); rintro e w4 ⟨rfl, hr4, hb4, hl4⟩; have HR4 := hid hr4; have HB4 := hid hb4; have HL4 := hid hl4; clear hr4 hb4 hl4))
        refine bodyPost_end (v := .tuple #[]) (by simp [results, Try.results44, go_sem]) rfl ?_
        exact ⟨rfl, by rw [HC3.out]; exact HR4.out, HUL2.out.but.trans HB4.out, HUL2.out.b.trans HL4.out⟩
    · cases fo with
      | true =>
        have hgn := HGE.out HFO.out.symm
        by_cases hi : rixN S.rows ak.key < S.rows.length
        · have hxi : rixI S.rows ak.key = rixN S.rows ak.key := by unfold rixI; rw [if_pos hi]
          rw [hxi] at HR
          have hc3 : S2 = (S.setL K k (-1)).endN k (S.rows[rixN S.rows ak.key]).val 0 := by rw [hc2, (get_rix S ak.key hi).1]; unfold endOf2; rw [if_neg hk1]; rfl
          have HC3 := hid hc3
          obtain ⟨b3, o3, rfl, hbl3, -⟩ := hrow.at (by have := flat_len Rw.cells 3 (fun _ => rfl) S.rows; omega)
          obtain ⟨-, x1, -⟩ := row_fields hrow _ hi
          have hiI : (rixN S.rows ak.key : Int) < S.rows.length := by omega
          generalize (S.rows[rixN S.rows ak.key]).val = v at *
          generalize rixN S.rows ak.key = ri at *
          generalize S.rows.length = rn at *
          clear hc2 hc3 hrow hgn hxi
          go_wp2_with (first
          | (go_at_call 43; (with_reducible refine HR.out.mono ?_); rintro e w3 ⟨rfl, hw3⟩; subst hw3)
          | (go_at_call 45; (with_reducible refine (HRE.out _ _).mono ?_); rintro e w4 ⟨rfl, hr4, hb4, hl4⟩; have HR4 := hid hr4; have HB4 := hid hb4; have HL4 := hid hl4; clear hr4 hb4 hl4))
          refine bodyPost_end (v := .tuple #[]) (by simp [results, Try.results44, go_sem]) rfl ?_
          exact ⟨rfl, by rw [HC3.out]; exact HR4.out, HUL2.out.but.trans HB4.out, HUL2.out.b.trans HL4.out⟩
        · exact absurd (get_rixN S ak.key hi).1 hgn
      | false =>
        by_cases hk2 : ak.kind = 2
        · have hc3 : S2 = (S.setL K k (-1)).endN k 0 4 := by rw [hc2]; unfold endOf2; rw [if_neg hk1, if_neg (by simp), if_pos hk2]
          have HC3 := hid hc3
          clear hc2 hc3
          rw [hk2] at y0
          go_wp2_with (first
          | (go_at_call 43; (with_reducible refine HR.out.mono ?_); rintro e w3 ⟨rfl, hw3⟩; subst hw3)
          | (go_at_call 45; (with_reducible refine (HRE.out _ _).mono ?_); rintro e w4 ⟨rfl, hr4, hb4, hl4⟩; have HR4 := hid hr4; have HB4 := hid hb4; have HL4 := hid hl4; clear hr4 hb4 hl4))
          refine bodyPost_end (v := .tuple #[]) (by simp [results, Try.results44, go_sem]) rfl ?_
          exact ⟨rfl, by rw [HC3.out]; exact HR4.out, HUL2.out.but.trans HB4.out, HUL2.out.b.trans HL4.out⟩
        · have hc3 : S2 = (S.setL K k (-1)).setH k ⟨5, false, (S.hand k).call⟩ := by rw [hc2]; unfold endOf2; rw [if_neg hk1, if_neg (by simp), if_neg hk2]; dsimp only; rw [← HFO.out]
          have HC3 := hid hc3
          clear hc2 hc3
          go_wp2_with (first
          | (go_at_call 43; (with_reducible refine HR.out.mono ?_); rintro e w3 ⟨rfl, hw3⟩; subst hw3)
          | (go_at_call 45; (with_reducible refine (HRE.out _ _).mono ?_); rintro e w4 ⟨rfl, hr4, hb4, hl4⟩; have HR4 := hid hr4; have HB4 := hid hb4; have HL4 := hid hl4; clear hr4 hb4 hl4))
          refine bodyPost_end (v := .tuple #[]) (by simp [results, Try.results44, go_sem]) rfl ?_
          exact ⟨rfl, by rw [HC3.out]; exact HS5.out, HUL2.out.but.setCell _ _ (.inr (.inr (.inr (.inl rfl)))), HUL2.out.b.setCell HUL2.out.is.ge.2.2.2 _⟩
end Go.Proofs.Ytabkmdhkfbcldaa
namespace Go.Proofs.Ytabkmdhkfbcldaa
open Go.RowKit
variable {W W' : World} {base r : Nat} {K : Wk} {S : Sh} {B : RB}

set_option maxRecDepth 20000 in
set_option maxHeartbeats 4000000 in
theorem rstep1 (h : RIs W base r K S B) (hbs : base ≤ W.heap.size) (HK : WkOk K) (ho : ShOk K S) (hrl : S.rows.length ≤ 1000000) (k : Nat) (hk : k < K.work.length) (hcan : S.canN K k = true) (hx : (S.hand k).at_ = 1) (hst : S.steps ≤ 1000000) (hsz : ∀ k, (K.own k).length ≤ 1000000) :
    Calls Try.prog 21 #[.pointer (some ⟨r, 0, none⟩), .int .i64 (k : Nat)] W (RStep W base r K B (S.stepN K k)) := by
  have hn := ho.nx hk (can_facts hcan).1
  have HD := hid (rdone h hsz (k : Int))
  have hdf : S.doneI K (k : Int) = false := by
    unfold Sh.doneI
    rw [Int.toNat_natCast, (can_facts hcan).1]
    simp; omega
  have HW := hid (fun (w1 : World) (hb : Below W.heap.size W w1) => rwaits_not (h.below hb) HK hsz hrl k hk hdf hn)
  have hwf : S.waitsI K (k : Int) = false := by unfold Sh.waitsI; rw [Int.toNat_natCast, (can_facts hcan).2, hdf]; rfl
  rw [hwf] at HW
  rw [hdf] at HD
  obtain ⟨c0, c1, c2, c3, c4, c5, c6, c7⟩ := h.cells
  obtain ⟨b, o, qb, qo, ca, hwv, d0, hbl, hqb, e0, e1, e2⟩ := h.askAt hk hn
  have d1 := h.nextAt hk
  have hol := hsz k
  rw [hwv] at c3
  have hkI : (k : Int) < K.work.length := by omega
  have hnI : ((S.next.getD k 0 : Nat) : Int) < (K.own k).length := by omega
  obtain ⟨l0, l1, l2, l3⟩ := h.lt
  have gg : ∀ {a : Addr} {v : Value}, a.block < W.heap.size → W.cell? a = some v → ∀ w', Below W.heap.size W w' → w'.cell? a = some v := fun ha hv w' hb => (hb.cell ha).trans hv
  have g3 := gg (a := ⟨r, 3, none⟩) l0 c3
  have g4 := gg (a := ⟨r, 4, none⟩) l0 c4
  have gd0 := gg (a := ⟨b, o + k, none⟩) hbl d0
  have gd1 := gg (a := ⟨B.bn, k, none⟩) l2 d1
  have ge0 := gg (a := ⟨qb, qo + S.next.getD k 0 * 3, none⟩) hqb e0
  have ge1 := gg (a := ⟨qb, qo + S.next.getD k 0 * 3 + 1, none⟩) hqb e1
  have ge2 := gg (a := ⟨qb, qo + S.next.getD k 0 * 3 + 2, none⟩) hqb e2
  have HH := hid h
  have HNX := hid hn
  have HBS := hid hbs
  generalize S.next.getD k 0 = nx at c0 c1 c2 c3 c4 c5 c6 c7 d0 d1 e0 e1 e2 gd0 gd1 ge0 ge1 ge2 hn hnI
  generalize (K.own k).length = ol at c0 c1 c2 c3 c4 c5 c6 c7 d0 d1 e0 e1 e2 gd0 gd1 ge0 ge1 ge2 hn hnI hol
  generalize hak : S.ask K k = ak at e0 e1 e2 ge0 ge1 ge2
  obtain ⟨S2, hS2⟩ : ∃ S2, S2 = S.stepN K k := ⟨_, rfl⟩
  rw [← hS2]
  rw [step_is hcan] at hS2
  unfold Sh.body at hS2
  dsimp only at hS2
  simp only [hx, hak] at hS2
  have HS2 := hid hS2
  have HAK := hid hak
  clear c0 c1 c2 c3 c4 c5 c6 c7 d0 d1 e0 e1 e2 gg h hdf hwf hbs hS2 hak
  go_enter Try.func21, Try.ntmps21
  go_upto_region 1 with (first
    | (go_at_call 24; (with_reducible refine HD.out.mono ?_); rintro e w1 ⟨rfl, hq1⟩; have HW1 : Hid (Below W.heap.size W w1) := (by obtain ⟨q, rfl⟩ := hq1; exact below_drewN (Below.refl _ _) q); clear hq1)
    | (go_at_call 25; (with_reducible refine (HW.out _ HW1.out).mono ?_); rintro e w2 ⟨rfl, hb2⟩; have HW2 : Hid (Below W.heap.size W w2) := below_more hb2 HW1.out (Nat.le_refl _); clear hb2))
  go_cut [4] (fun v wx => AkV W ak v wx)
  case first =>
    refine wp_region_held_drew (S := fun w' => Below W.heap.size W w') (by kernel_rfl) HW2.out.drew (fun hHeld => ?_)
    refine wpAnyH_take (i := 0) (oi := { dst := some 14, op := Op.move (Operand.tmp 0), type := 34, pos := "ref.go:148", after := #[], guard := none }) (v := ?wav0) rfl (by kernel_rfl) (by kernel_rfl) (by kernel_rfl) (fun _ _ _ h => h) (Or.inl ⟨by rfl, ?wah0⟩) (by assumption) ?war0
    case wah0 => ((intro w hSw; (try dsimp only at hSw); go_simp); try with_reducible rfl)
    try simp only [Act.put, List.setIfInBounds_toArray, List.set_cons_zero, List.set_cons_succ]
    refine wpAnyH_take (i := 1) (oi := { dst := some 15, op := Op.nilCheck (Operand.tmp 14), type := 0, pos := "ref.go:148", after := #[{ on := 0, ground := Ground.data }], guard := none }) (v := ?wav1) rfl (by kernel_rfl) (by kernel_rfl) (by kernel_rfl) (fun _ _ _ h => h) (Or.inl ⟨by rfl, ?wah1⟩) (by assumption) ?war1
    case wah1 => ((intro w hSw; (try dsimp only at hSw); go_simp); try with_reducible rfl)
    try simp only [Act.put, List.setIfInBounds_toArray, List.set_cons_zero, List.set_cons_succ]
    refine wpAnyH_take (i := 2) (oi := { dst := some 16, op := Op.fieldAddr 84 (Operand.tmp 15) 3, type := 0, pos := "ref.go:148", after := #[{ on := 1, ground := Ground.data }], guard := none }) (v := ?wav2) rfl (by kernel_rfl) (by kernel_rfl) (by kernel_rfl) (fun _ _ _ h => h) (Or.inl ⟨by rfl, ?wah2⟩) (by assumption) ?war2
    case wah2 => ((intro w hSw; (try dsimp only at hSw); go_simp); try with_reducible rfl)
    try simp only [Act.put, List.setIfInBounds_toArray, List.set_cons_zero, List.set_cons_succ]
    refine wpAnyH_take (i := 3) (oi := { dst := some 17, op := Op.load 27 (Operand.tmp 16), type := 27, pos := "ref.go:148", after := #[{ on := 2, ground := Ground.data }], guard := none }) (v := ?wav3) rfl (by kernel_rfl) (by kernel_rfl) (by kernel_rfl) (fun _ _ _ h => h) (Or.inl ⟨by rfl, ?wah3⟩) (by assumption) ?war3
    case wah3 => ((intro w hSw; (try dsimp only at hSw); go_simp); try with_reducible rfl)
    try simp only [Act.put, List.setIfInBounds_toArray, List.set_cons_zero, List.set_cons_succ]
    refine wpAnyH_take (i := 4) (oi := { dst := some 18, op := Op.move (Operand.tmp 1), type := 3, pos := "ref.go:148", after := #[], guard := none }) (v := ?wav4) rfl (by kernel_rfl) (by kernel_rfl) (by kernel_rfl) (fun _ _ _ h => h) (Or.inl ⟨by rfl, ?wah4⟩) (by assumption) ?war4
    case wah4 => ((intro w hSw; (try dsimp only at hSw); go_simp); try with_reducible rfl)
    try simp only [Act.put, List.setIfInBounds_toArray, List.set_cons_zero, List.set_cons_succ]
    refine wpAnyH_take (i := 5) (oi := { dst := some 19, op := Op.indexAddr 27 (Operand.tmp 17) (Operand.tmp 18), type := 0, pos := "ref.go:148", after := #[{ on := 3, ground := Ground.data }, { on := 4, ground := Ground.data }], guard := none }) (v := ?wav5) rfl (by kernel_rfl) (by kernel_rfl) (by kernel_rfl) (fun _ _ _ h => h) (Or.inl ⟨by rfl, ?wah5⟩) (by assumption) ?war5
    case wah5 => ((intro w hSw; (try dsimp only at hSw); go_simp); try with_reducible rfl)
    try simp only [Act.put, List.setIfInBounds_toArray, List.set_cons_zero, List.set_cons_succ]
    refine wpAnyH_take (i := 6) (oi := { dst := some 20, op := Op.load 71 (Operand.tmp 19), type := 71, pos := "ref.go:148", after := #[{ on := 5, ground := Ground.data }], guard := none }) (v := ?wav6) rfl (by kernel_rfl) (by kernel_rfl) (by kernel_rfl) (fun _ _ _ h => h) (Or.inl ⟨by rfl, ?wah6⟩) (by assumption) ?war6
    case wah6 => ((intro w hSw; (try dsimp only at hSw); go_simp); try with_reducible rfl)
    try simp only [Act.put, List.setIfInBounds_toArray, List.set_cons_zero, List.set_cons_succ]
    refine wpAnyH_take (i := 7) (oi := { dst := some 21, op := Op.move (Operand.tmp 0), type := 34, pos := "ref.go:148", after := #[], guard := none }) (v := ?wav7) rfl (by kernel_rfl) (by kernel_rfl) (by kernel_rfl) (fun _ _ _ h => h) (Or.inl ⟨by rfl, ?wah7⟩) (by assumption) ?war7
    case wah7 => ((intro w hSw; (try dsimp only at hSw); go_simp); try with_reducible rfl)
    try simp only [Act.put, List.setIfInBounds_toArray, List.set_cons_zero, List.set_cons_succ]
    refine wpAnyH_take (i := 8) (oi := { dst := some 22, op := Op.nilCheck (Operand.tmp 21), type := 0, pos := "ref.go:148", after := #[{ on := 7, ground := Ground.data }], guard := none }) (v := ?wav8) rfl (by kernel_rfl) (by kernel_rfl) (by kernel_rfl) (fun _ _ _ h => h) (Or.inl ⟨by rfl, ?wah8⟩) (by assumption) ?war8
    case wah8 => ((intro w hSw; (try dsimp only at hSw); go_simp); try with_reducible rfl)
    try simp only [Act.put, List.setIfInBounds_toArray, List.set_cons_zero, List.set_cons_succ]
    refine wpAnyH_take (i := 9) (oi := { dst := some 23, op := Op.fieldAddr 84 (Operand.tmp 22) 4, type := 0, pos := "ref.go:148", after := #[{ on := 8, ground := Ground.data }], guard := none }) (v := ?wav9) rfl (by kernel_rfl) (by kernel_rfl) (by kernel_rfl) (fun _ _ _ h => h) (Or.inl ⟨by rfl, ?wah9⟩) (by assumption) ?war9
    case wah9 => ((intro w hSw; (try dsimp only at hSw); go_simp); try with_reducible rfl)
    try simp only [Act.put, List.setIfInBounds_toArray, List.set_cons_zero, List.set_cons_succ]
    refine wpAnyH_take (i := 10) (oi := { dst := some 24, op := Op.load 62 (Operand.tmp 23), type := 62, pos := "ref.go:148", after := #[{ on := 9, ground := Ground.data }], guard := none }) (v := ?wav10) rfl (by kernel_rfl) (by kernel_rfl) (by kernel_rfl) (fun _ _ _ h => h) (Or.inl ⟨by rfl, ?wah10⟩) (by assumption) ?war10
    case wah10 => ((intro w hSw; (try dsimp only at hSw); go_simp); try with_reducible rfl)
    try simp only [Act.put, List.setIfInBounds_toArray, List.set_cons_zero, List.set_cons_succ]
    refine wpAnyH_take (i := 11) (oi := { dst := some 25, op := Op.move (Operand.tmp 1), type := 3, pos := "ref.go:148", after := #[], guard := none }) (v := ?wav11) rfl (by kernel_rfl) (by kernel_rfl) (by kernel_rfl) (fun _ _ _ h => h) (Or.inl ⟨by rfl, ?wah11⟩) (by assumption) ?war11
    case wah11 => ((intro w hSw; (try dsimp only at hSw); go_simp); try with_reducible rfl)
    try simp only [Act.put, List.setIfInBounds_toArray, List.set_cons_zero, List.set_cons_succ]
    refine wpAnyH_take (i := 12) (oi := { dst := some 26, op := Op.indexAddr 62 (Operand.tmp 24) (Operand.tmp 25), type := 0, pos := "ref.go:148", after := #[{ on := 10, ground := Ground.data }, { on := 11, ground := Ground.data }], guard := none }) (v := ?wav12) rfl (by kernel_rfl) (by kernel_rfl) (by kernel_rfl) (fun _ _ _ h => h) (Or.inl ⟨by rfl, ?wah12⟩) (by assumption) ?war12
    case wah12 => ((intro w hSw; (try dsimp only at hSw); go_simp); try with_reducible rfl)
    try simp only [Act.put, List.setIfInBounds_toArray, List.set_cons_zero, List.set_cons_succ]
    refine wpAnyH_take (i := 13) (oi := { dst := some 27, op := Op.load 3 (Operand.tmp 26), type := 3, pos := "ref.go:148", after := #[{ on := 12, ground := Ground.data }], guard := none }) (v := ?wav13) rfl (by kernel_rfl) (by kernel_rfl) (by kernel_rfl) (fun _ _ _ h => h) (Or.inl ⟨by rfl, ?wah13⟩) (by assumption) ?war13
    case wah13 => ((intro w hSw; (try dsimp only at hSw); go_simp); try with_reducible rfl)
    try simp only [Act.put, List.setIfInBounds_toArray, List.set_cons_zero, List.set_cons_succ]
    refine wpAnyH_take (i := 14) (oi := { dst := some 28, op := Op.indexAddr 71 (Operand.tmp 20) (Operand.tmp 27), type := 0, pos := "ref.go:148", after := #[{ on := 6, ground := Ground.data }, { on := 13, ground := Ground.data }], guard := none }) (v := ?wav14) rfl (by kernel_rfl) (by kernel_rfl) (by kernel_rfl) (fun _ _ _ h => h) (Or.inl ⟨by rfl, ?wah14⟩) (by assumption) ?war14
    case wah14 => ((intro w hSw; (try dsimp only at hSw); go_simp); try with_reducible rfl)
    try simp only [Act.put, List.setIfInBounds_toArray, List.set_cons_zero, List.set_cons_succ]
    refine wpAnyH_take (i := 15) (oi := { dst := some 29, op := Op.load 70 (Operand.tmp 28), type := 70, pos := "ref.go:148", after := #[{ on := 14, ground := Ground.data }], guard := none }) (v := ?wav15) rfl (by kernel_rfl) (by kernel_rfl) (by kernel_rfl) (fun _ _ _ h => h) (Or.inl ⟨by rfl, ?wah15⟩) (by assumption) ?war15
    case wah15 => ((intro w hSw; (try dsimp only at hSw); go_simp); try with_reducible rfl)
    try simp only [Act.put, List.setIfInBounds_toArray, List.set_cons_zero, List.set_cons_succ]
    refine wpAnyH_ready (rs := [16]) (by kernel_rfl) (by simp) ?_
    refine AllReadyH.cons (o := { dst := some 4, op := Op.alloc 70, type := 0, pos := "ref.go:148", after := #[], guard := none }) rfl (fun K hK => ?_) AllReadyH.nil
    go_simp; refine hK.out _ _ (by first | exact (HW2.out.alloc HW2.out.size _).drew | exact HW2.out.alloc HW2.out.size _) (fun hHeld => ?_)
    clear hK K
    try simp only [Act.put, List.setIfInBounds_toArray, List.set_cons_zero, List.set_cons_succ]
    refine wpAnyH_ready (rs := [17]) (by kernel_rfl) (by simp) ?_
    refine AllReadyH.cons (o := { dst := none, op := Op.store 70 (Operand.tmp 4) (Operand.tmp 29), type := 0, pos := "ref.go:148", after := #[{ on := 16, ground := Ground.data }, { on := 15, ground := Ground.data }, { on := 0, ground := Ground.phase }, { on := 1, ground := Ground.phase }, { on := 2, ground := Ground.phase }, { on := 3, ground := Ground.phase }, { on := 4, ground := Ground.phase }, { on := 5, ground := Ground.phase }, { on := 6, ground := Ground.phase }, { on := 7, ground := Ground.phase }, { on := 8, ground := Ground.phase }, { on := 9, ground := Ground.phase }, { on := 10, ground := Ground.phase }, { on := 11, ground := Ground.phase }, { on := 12, ground := Ground.phase }, { on := 13, ground := Ground.phase }, { on := 14, ground := Ground.phase }, { on := 15, ground := Ground.phase }, { on := 16, ground := Ground.phase }], guard := none }) rfl (fun K hK => ?_) AllReadyH.nil
    go_simp; refine hK.out _ _ (by exact (HW2.out.alloc HW2.out.size _).drew) (fun hHeld => ?_)
    clear hK K
    try simp only [Act.put, List.setIfInBounds_toArray, List.set_cons_zero, List.set_cons_succ]
    refine wpAnyH_done (by kernel_rfl) ?_ _
    go_wp2_with fail
    go_meet
    exact ⟨_, rfl, HW2.out.size, heap_alloc_new w2 _, (HW2.out.alloc HW2.out.size _).drew⟩
  case rest =>
    obtain ⟨b2, rfl, hbz, hbb, hbc⟩ := hcut
    have HBC := hid hbc
    have HT := hid (HH.out.below hbc)
    have HBB := hid hbb
    obtain ⟨c0, c1, c2, c3, c4, c5, c6, c7⟩ := HT.out.cells
    obtain ⟨f0, f1, f2⟩ := HT.out.handAt hk
    rw [hx] at f0
    have y0 := cell_of_row _ _ 0 _ _ _ hbb
    have y1 := cell_of_row _ _ 1 _ _ _ hbb
    have y2 := cell_of_row _ _ 2 _ _ _ hbb
    simp only [List.getElem?_toArray, List.getElem?_cons_zero, List.getElem?_cons_succ] at y0 y1 y2
    have ff0 : wc.frozen? ⟨B.bh, k * 3, none⟩ = false := frozen_of_row _ _ _ _ _ HT.out.hands
    have ff1 : wc.frozen? ⟨B.bh, k * 3 + 1, none⟩ = false := frozen_of_row _ _ _ _ _ HT.out.hands
    have ff2 : wc.frozen? ⟨B.bh, k * 3 + 2, none⟩ = false := frozen_of_row _ _ _ _ _ HT.out.hands
    have fr7 : wc.frozen? ⟨r, 7, none⟩ = false := frozen_of_row _ _ _ _ _ HT.out.head
    have hrh : r ≠ B.bh := tag_ne HT.out.tagR HT.out.tagH (by decide)
    have hrl2 : r ≠ B.bl := tag_ne HT.out.tagR HT.out.tagL (by decide)
    have hhl : B.bh ≠ B.bl := tag_ne HT.out.tagH HT.out.tagL (by decide)
    have hb2h : b2 ≠ B.bh := by omega
    have hb2l : b2 ≠ B.bl := by omega
    have hb2r : b2 ≠ r := by omega
    have hkl : k < S.hands.length := by rw [HT.out.hnl]; exact hk
    have HBW := hid (And.intro (But.of_below (X := B.fp r) hbc) (hbc.mono HBS.out))
    clear g3 g4 gd0 gd1 ge0 ge1 ge2 hbc hbb
    have HR := hid (rrow HT.out hrl ak.key)
    have hgi : S.get ak.key = none ↔ ¬ rixN S.rows ak.key < S.rows.length := by
      by_cases hi : rixN S.rows ak.key < S.rows.length
      · rw [(get_rix S ak.key hi).1]; simp [hi]
      · rw [(get_rixN S ak.key hi).1]; simp [hi]
    obtain ⟨fo, hfo⟩ : ∃ fo : Bool, fo = (S.get ak.key).isSome := ⟨_, rfl⟩
    have HFO := hid hfo
    have HGI := hid hgi
    have hs2 := HS2.out
    unfold Hid at hs2
    rw [← hfo] at hs2
    have fin : ∀ (nx : Nat), RIs (((wc.setCell ⟨B.bh, k * 3 + 1, none⟩ (.bool fo)).setCell ⟨B.bh, k * 3, none⟩ (.int .i64 (nx : Nat))).setCell ⟨r, 7, none⟩ (.int .i64 ((S.steps : Nat) + 1))) base r K { S with hands := S.hands.set k ⟨nx, fo, (S.hand k).call⟩, steps := S.steps + 1 } B := fun nx => by
      have s1 := HT.out.setHand k hkl 1 (by omega) (.bool fo) ⟨(S.hand k).at_, fo, (S.hand k).call⟩ rfl
      have s2 := s1.setHand k (by rw [List.length_set]; exact hkl) 0 (by omega) (.int .i64 (nx : Nat)) ⟨nx, fo, (S.hand k).call⟩ (by show _ = ((S.hands.set k _).getD k hn0).cells.set 0 _; rw [getD_set _ _ hkl, if_pos rfl]; rfl)
      have s3 := s2.setSteps (S.steps + 1)
      have e : ((S.steps + 1 : Nat) : Int) = (S.steps : Int) + 1 := by omega
      rw [e] at s3
      simpa using s3
    have HFIN := hid fin
    have HFI2 : Hid (∀ (a n2 : Nat), RIs ((((wc.setCell ⟨B.bh, k * 3 + 1, none⟩ (.bool fo)).setCell ⟨B.bh, k * 3, none⟩ (.int .i64 (a : Nat))).setCell ⟨B.bh, k * 3, none⟩ (.int .i64 (n2 : Nat))).setCell ⟨r, 7, none⟩ (.int .i64 ((S.steps : Nat) + 1))) base r K { S with hands := S.hands.set k ⟨n2, fo, (S.hand k).call⟩, steps := S.steps + 1 } B) := fun a n2 => by
      have s1 := HT.out.setHand k hkl 1 (by omega) (.bool fo) ⟨(S.hand k).at_, fo, (S.hand k).call⟩ rfl
      have s2 := s1.setHand k (by rw [List.length_set]; exact hkl) 0 (by omega) (.int .i64 (a : Nat)) ⟨a, fo, (S.hand k).call⟩ (by show _ = ((S.hands.set k _).getD k hn0).cells.set 0 _; rw [getD_set _ _ hkl, if_pos rfl]; rfl)
      have s2b := s2.setHand k (by simp; exact hkl) 0 (by omega) (.int .i64 (n2 : Nat)) ⟨n2, fo, (S.hand k).call⟩ (by show _ = (((S.hands.set k _).set k _).getD k hn0).cells.set 0 _; rw [getD_set _ _ (by rw [List.length_set]; exact hkl), if_pos rfl]; rfl)
      have s3 := s2b.setSteps (S.steps + 1)
      have e : ((S.steps + 1 : Nat) : Int) = (S.steps : Int) + 1 := by omega
      rw [e] at s3
      simpa using s3
    clear fin hgi hfo HS2
    have hbut : ∀ w3, But (B.fp r) W w3 → True := fun _ _ => trivial
    clear hbut
    cases fo with
    | true =>
      have hi : rixN S.rows ak.key < S.rows.length := by
        refine Decidable.byContradiction fun hc => ?_
        have := HGI.out.2 hc
        have h2 := HFO.out
        unfold Hid at h2
        rw [this] at h2
        cases h2
      have hxi : rixI S.rows ak.key = rixN S.rows ak.key := by unfold rixI; rw [if_pos hi]
      rw [hxi] at HR
      have hne : S.get ak.key ≠ none := fun e => HGI.out.1 e hi
      have hc2 : S2 = { S with hands := S.hands.set k ⟨4, true, (S.hand k).call⟩, steps := S.steps + 1 } := by rw [hs2, if_neg (fun e => hne e.2)]; rfl
      have HC2 := hid hc2
      generalize rixN S.rows ak.key = ri at *
      clear hs2 hc2 hne hi hxi
      go_wp2_with (go_at_call 43; (with_reducible refine HR.out.mono ?_); rintro e w3 ⟨rfl, hw3⟩; subst hw3)
      all_goals
        refine bodyPost_end (v := .tuple #[]) (by simp [results, Try.results21, go_sem]) rfl ?_
        exact ⟨rfl, B, by rw [HC2.out]; exact HFIN.out 4, fun b hb => .inl hb, ((HBW.out.1.setCell _ _ (.inr (.inr (.inr (.inl rfl))))).setCell _ _ (.inr (.inr (.inr (.inl rfl))))).setCell _ _ (.inl rfl), ((HBW.out.2.setCell HT.out.ge.2.2.2 _).setCell HT.out.ge.2.2.2 _).setCell HT.out.ge.1 _⟩
    | false =>
      have hi : ¬ rixN S.rows ak.key < S.rows.length := fun hc => by
        have := HFO.out
        unfold Hid at this
        rw [(get_rix S ak.key hc).1] at this
        cases this
      have hxi : rixI S.rows ak.key = -1 := by unfold rixI; rw [if_neg hi]
      rw [hxi] at HR
      have hg := HGI.out.2 hi
      by_cases hk1 : ak.kind = 1
      · have hc2 : S2 = { S with hands := S.hands.set k ⟨2, false, (S.hand k).call⟩, steps := S.steps + 1 } := by rw [hs2, if_pos ⟨hk1, hg⟩]; rfl
        have HC2 := hid hc2
        rw [hk1] at y0
        clear hs2 hc2 hg hi hxi
        go_wp2_with (go_at_call 43; (with_reducible refine HR.out.mono ?_); rintro e w3 ⟨rfl, hw3⟩; subst hw3)
        all_goals
          refine bodyPost_end (v := .tuple #[]) (by simp [results, Try.results21, go_sem]) rfl ?_
          exact ⟨rfl, B, by rw [HC2.out]; exact HFI2.out 4 2, fun b hb => .inl hb, (((HBW.out.1.setCell _ _ (.inr (.inr (.inr (.inl rfl))))).setCell _ _ (.inr (.inr (.inr (.inl rfl))))).setCell _ _ (.inr (.inr (.inr (.inl rfl))))).setCell _ _ (.inl rfl), (((HBW.out.2.setCell HT.out.ge.2.2.2 _).setCell HT.out.ge.2.2.2 _).setCell HT.out.ge.2.2.2 _).setCell HT.out.ge.1 _⟩
      · have hc2 : S2 = { S with hands := S.hands.set k ⟨4, false, (S.hand k).call⟩, steps := S.steps + 1 } := by rw [hs2, if_neg (fun e => hk1 e.1)]; rfl
        have HC2 := hid hc2
        clear hs2 hc2 hg hi hxi
        go_wp2_with (go_at_call 43; (with_reducible refine HR.out.mono ?_); rintro e w3 ⟨rfl, hw3⟩; subst hw3)
        all_goals
          refine bodyPost_end (v := .tuple #[]) (by simp [results, Try.results21, go_sem]) rfl ?_
          exact ⟨rfl, B, by rw [HC2.out]; exact HFIN.out 4, fun b hb => .inl hb, ((HBW.out.1.setCell _ _ (.inr (.inr (.inr (.inl rfl))))).setCell _ _ (.inr (.inr (.inr (.inl rfl))))).setCell _ _ (.inl rfl), ((HBW.out.2.setCell HT.out.ge.2.2.2 _).setCell HT.out.ge.2.2.2 _).setCell HT.out.ge.1 _⟩
end Go.Proofs.Ytabkmdhkfbcldaa
