/-
  Sections compared: the code's same.
  Objects compared: the code's Same.
-/
import Derived.Test.YteccpmmedpkddaaJN3
import Derived.Shelf.Bytes.SlSmallAll
namespace Go.Proofs.Yteccpmmedpkddaa
open Go.RowKit
variable {W w w' : World}
theorem conv_row (p : Option Addr) (c : Nat) (l : List Int) (h : Row W p (l.map (Value.int .u8))) : (convert 37 9 (.slice p l.length c)).run Try.prog W = .ok (.string (strOfNums l)) W := by
  cases l with
  | nil => exact run_convert_bytes_zero W _ _ (show Try.prog.underlying 37 = some (.slice 5) from by kernel_rfl) (by kernel_rfl) p c _ (by kernel_rfl)
  | cons a l =>
    obtain ⟨b, o, rfl, -, hc⟩ := h.at (by simp)
    refine run_convert_bytes_arg W _ _ (show Try.prog.underlying 37 = some (.slice 5) from by kernel_rfl) (by kernel_rfl) b o _ c _ rfl (fun i hi => ?_) _ (by kernel_rfl)
    rw [hc i (by simpa using hi)]
    have hi2 : i < (a :: l).length := hi
    rw [List.getElem_map]
    simp only [List.getD_eq_getElem?_getD, List.getElem?_eq_getElem hi2]
    rfl
def inU8 (l : List Int) : Prop := ∀ v ∈ l, (Lit.int .u8 v).wf = true
theorem u8_range {v : Int} (h : (Lit.int .u8 v).wf = true) : 0 ≤ v ∧ v ≤ 255 := by
  simp [Lit.wf, IntKind.min, IntKind.max, IntKind.bits, IntKind.signed] at h
  omega
theorem bytes_inj : ∀ (l m : List Int), inU8 l → inU8 m → Lib.bytesOf l = Lib.bytesOf m → l = m
  | [], [], _, _, _ => rfl
  | [], b :: m, _, _, h => by simp [Lib.bytesOf] at h
  | a :: l, [], _, _, h => by simp [Lib.bytesOf] at h
  | a :: l, b :: m, h1, h2, h => by
    have e : Lib.bytesOf (a :: l) = UInt8.ofNat a.toNat :: Lib.bytesOf l := rfl
    have e2 : Lib.bytesOf (b :: m) = UInt8.ofNat b.toNat :: Lib.bytesOf m := rfl
    rw [e, e2] at h
    injection h with h3 h4
    have r1 := u8_range (h1 a (List.mem_cons_self ..))
    have r2 := u8_range (h2 b (List.mem_cons_self ..))
    have h5 := congrArg UInt8.toNat h3
    rw [UInt8.toNat_ofNat', UInt8.toNat_ofNat'] at h5
    rw [bytes_inj l m (fun v hv => h1 v (List.mem_cons_of_mem _ hv)) (fun v hv => h2 v (List.mem_cons_of_mem _ hv)) h4, show a = b by omega]
theorem bytes_eq {l m : List Int} (h1 : inU8 l) (h2 : inU8 m) : (Lib.bytesOf l == Lib.bytesOf m) = decide (l = m) := by
  by_cases h : l = m
  · subst h; simp
  · have : Lib.bytesOf l ≠ Lib.bytesOf m := fun e => h (bytes_inj l m h1 h2 e)
    simp [h, this]
/-- What a reader of a section needs. -/
structure Sc.rd (W : World) (s : Sc) : Prop where
  data : Row W s.dp (s.data.map (Value.int .u8))
  bytes : inU8 s.data
  dlen : s.data.length ≤ 140737488351232
  rel : Row W s.rp (s.rel.flatMap Rl.cells)
  rcap : s.rel.length ≤ 4398046510976
  rnil : s.rel.length ≤ s.rc ∧ (s.rp = none → s.rc = 0)
  dnil : s.data.length ≤ s.dc ∧ (s.dp = none → s.dc = 0)
theorem Sc.rd.below {s : Sc} (h : s.rd W) (hb : Below W.heap.size W w) : s.rd w := ⟨h.data.below hb, h.bytes, h.dlen, h.rel.below hb, h.rcap, h.rnil, h.dnil⟩
theorem Sc.ok.rd {s : Sc} (h : s.ok W) : s.rd W := ⟨h.data, h.bytes, by have := h.dcap; omega, h.rel, by have := h.rcap; omega, ⟨h.rcap.1, h.rcap.2.2⟩, h.dcap.1, h.dcap.2.2⟩
/-- What a reader of an object needs. -/
structure Ob.rd (W : World) (o : Ob) : Prop where
  secs : Row W o.sp (o.secs.flatMap Sc.cells)
  scap : o.secs.length ≤ 4398046510976
  each : ∀ s ∈ o.secs, s.rd W
  syms : Row W o.yp (o.syms.flatMap Sy.cells)
  ycap : o.syms.length ≤ 4398046510976
  ynil : o.syms.length ≤ o.yc ∧ (o.yp = none → o.yc = 0)
theorem Ob.rd.below {o : Ob} (h : o.rd W) (hb : Below W.heap.size W w) : o.rd w := ⟨h.secs.below hb, h.scap, fun s hs => (h.each s hs).below hb, h.syms.below hb, h.ycap, h.ynil⟩
theorem Ob.ok.rd {o : Ob} (h : o.ok W) : o.rd W := ⟨h.secs, by have := h.scap; omega, fun s hs => (h.each s hs).rd, h.syms, by have := h.ycap; omega, h.ycap.1, h.ycap.2.2⟩
theorem con_eq (a b : Sc) : a.con = b.con ↔ a.name = b.name ∧ a.kind = b.kind ∧ a.align = b.align ∧ a.size = b.size ∧ a.data = b.data ∧ a.rel = b.rel := by
  unfold Sc.con
  simp
set_option maxRecDepth 20000 in
set_option maxHeartbeats 4000000 in
theorem samec_any (a b : Sc) (w : World) (ha : a.rd w) (hb : b.rd w) : Calls Try.prog 59 #[.agg a.cells.toArray, .agg b.cells.toArray] w fun e w' => e = .returned (.bool (decide (a.con = b.con))) ∧ Below w.heap.size w w' := by
  have HBY : Hid (∀ w1, Below w.heap.size w w1 → Calls Try.prog 73 #[.slice a.dp a.data.length a.dc, .slice b.dp b.data.length b.dc] w1 fun e w' => e = .returned (.bool (decide (a.data = b.data))) ∧ w' = w1) := fun w1 h1 => by
    have := Try.bytes_Equal (.slice a.dp a.data.length a.dc) (.slice b.dp b.data.length b.dc) a.data b.data w1 (conv_row _ _ _ (ha.data.below h1)) (conv_row _ _ _ (hb.data.below h1))
    rwa [bytes_eq ha.bytes hb.bytes] at this
  have HRE : Hid (∀ w1, Below w.heap.size w w1 → Calls Try.prog 74 #[.slice a.rp a.rel.length a.rc, .slice b.rp b.rel.length b.rc] w1 fun e w' => e = .returned (.bool (decide (a.rel = b.rel))) ∧ Below w1.heap.size w1 w') := fun w1 h1 =>
    erels_any _ _ _ _ a.rel b.rel w1 (ha.rel.below h1) (hb.rel.below h1) (by have := ha.rcap; omega) (by have := hb.rcap; omega)
  have hD : decide (a.con = b.con) = (decide (a.name = b.name) && decide (a.kind = b.kind) && decide (a.align = b.align) && decide (a.size = b.size) && decide (a.data = b.data) && decide (a.rel = b.rel)) := by
    rw [Bool.eq_iff_iff]
    simp [con_eq, and_assoc]
  obtain ⟨D, hDD⟩ : ∃ D, D = decide (a.con = b.con) := ⟨_, rfl⟩
  rw [← hDD] at hD ⊢
  clear hDD ha hb
  have hbx : Below w.heap.size w ((w.alloc (.cells a.cells.toArray 40)).alloc (.cells b.cells.toArray 40)) := ((Below.refl _ _).alloc (Nat.le_refl _) _).alloc (by simp) _
  obtain ⟨an, ak, aa, az, ad, adp, adc, ar, arp, arc⟩ := a
  obtain ⟨bn, bk, ba, bz, bd, bdp, bdc, br, brp, brc⟩ := b
  dsimp only at HBY HRE hD
  unfold Sc.cells at hbx
  show Calls Try.prog 59 #[.agg #[.string an, .int .i64 ak, .int .i64 aa, .int .i64 az, .slice adp ad.length adc, .slice arp ar.length arc], .agg #[.string bn, .int .i64 bk, .int .i64 ba, .int .i64 bz, .slice bdp bd.length bdc, .slice brp br.length brc]] w _
  obtain ⟨DD, hDD⟩ : ∃ q, q = decide (ad = bd) := ⟨_, rfl⟩
  obtain ⟨DR, hDR⟩ : ∃ q, q = decide (ar = br) := ⟨_, rfl⟩
  rw [← hDD] at HBY hD
  rw [← hDR] at HRE hD
  clear hDD hDR
  by_cases h1 : an = bn
  case neg =>
    have e1 := strNe h1
    have H : Hid (D = false) := by show _ = _; rw [hD]; simp [h1]
    clear hD h1
    go_enter Try.func59, Try.ntmps59
    go_wp2
    go_ret
    exact ⟨ret_bool H.out.symm, hbx⟩
  have e1 := strEq h1
  by_cases h2 : ak = bk
  case neg =>
    have e2 : (ak == bk) = false := beq_eq_false_iff_ne.2 h2
    have H : Hid (D = false) := by show _ = _; rw [hD]; simp [h2]
    clear hD h1 h2
    go_enter Try.func59, Try.ntmps59
    go_wp2
    go_ret
    exact ⟨ret_bool H.out.symm, hbx⟩
  have e2 : (ak == bk) = true := beq_iff_eq.2 h2
  by_cases h3 : aa = ba
  case neg =>
    have e3 : (aa == ba) = false := beq_eq_false_iff_ne.2 h3
    have H : Hid (D = false) := by show _ = _; rw [hD]; simp [h3]
    clear hD h1 h2 h3
    go_enter Try.func59, Try.ntmps59
    go_wp2
    go_ret
    exact ⟨ret_bool H.out.symm, hbx⟩
  have e3 : (aa == ba) = true := beq_iff_eq.2 h3
  by_cases h4 : az = bz
  case neg =>
    have e4 : (az == bz) = false := beq_eq_false_iff_ne.2 h4
    have H : Hid (D = false) := by show _ = _; rw [hD]; simp [h4]
    clear hD h1 h2 h3 h4
    go_enter Try.func59, Try.ntmps59
    go_wp2
    go_ret
    exact ⟨ret_bool H.out.symm, hbx⟩
  have e4 : (az == bz) = true := beq_iff_eq.2 h4
  have H : Hid (D = (DD && DR)) := by show _ = _; rw [hD]; simp [h1, h2, h3, h4]
  clear hD h1 h2 h3 h4
  cases DD with
  | false =>
    go_enter Try.func59, Try.ntmps59
    go_wp2_with (go_at_call 73; go_loud ((with_reducible refine (HBY.out _ hbx).mono ?_); rintro e w2 ⟨rfl, hw2⟩; rw [hw2]; clear hw2))
    go_ret
    exact ⟨ret_bool H.out.symm, hbx⟩
  | true =>
    go_enter Try.func59, Try.ntmps59
    go_wp2_with (first
      | (go_at_call 73; go_loud ((with_reducible refine (HBY.out _ hbx).mono ?_); rintro e w2 ⟨rfl, hw2⟩; rw [hw2]; clear hw2))
      | (go_at_call 74; go_loud ((with_reducible refine (HRE.out _ hbx).mono ?_); rintro e w3 ⟨rfl, hb3⟩)))
    go_ret
    exact ⟨ret_bool (by rw [H.out, Bool.true_and]), hbx.trans (hb3.mono hbx.size)⟩
end Go.Proofs.Yteccpmmedpkddaa
namespace Go.Proofs.Yteccpmmedpkddaa
open Go.RowKit
variable {W w w' : World}
theorem sc_ok_list {l : List Sc} (h : ∀ s ∈ l, s.rd W) (hb : Below W.heap.size W w) : ∀ s ∈ l, s.rd w := fun s hs => (h s hs).below hb
set_option maxRecDepth 20000 in
set_option maxHeartbeats 4000000 in
theorem esecs_any (pa pb : Option Addr) (ca cb : Nat) (l m : List Sc) (W : World) (h1 : Row W pa (l.flatMap Sc.cells)) (h2 : Row W pb (m.flatMap Sc.cells)) (k1 : ∀ s ∈ l, s.rd W) (k2 : ∀ s ∈ m, s.rd W) (hl : l.length ≤ 4398046510976) (hm : m.length ≤ 4398046510976) :
    Calls Try.prog 58 #[.slice pa l.length ca, .slice pb m.length cb, .func (.func 59) #[] #[]] W fun e w' => e = .returned (.bool (decide (l.map Sc.con = m.map Sc.con))) ∧ Below W.heap.size W w' := by
  have HH := hid (And.intro h1 h2)
  have HK := hid (And.intro k1 k2)
  obtain ⟨N, hN⟩ : ∃ N, N = l.length := ⟨_, rfl⟩
  obtain ⟨M, hM⟩ : ∃ N, N = m.length := ⟨_, rfl⟩
  rw [← hN] at hl ⊢
  rw [← hM] at hm ⊢
  have HN := hid (And.intro hN hM)
  obtain ⟨B, hB⟩ : ∃ B, B = decide (l.map Sc.con = m.map Sc.con) := ⟨_, rfl⟩
  have HB := hid hB
  rw [← hB]
  clear h1 h2 hN hM hB k1 k2
  have hb0 : Below W.heap.size W W := Below.refl _ _
  by_cases hlen : N = M
  case neg =>
    have hBf : Hid (B = false) := by
      show _ = _
      rw [HB.out]; refine decide_eq_false fun e => hlen ?_
      have := congrArg List.length e
      rw [HN.out.1, HN.out.2]; simpa using this
    have hz : ¬ (N : Int) = (M : Int) := by omega
    go_enter Try.func58, Try.ntmps58
    go_wp2
    go_ret
    exact ⟨ret_bool hBf.out.symm, Below.refl _ _⟩
  subst hlen
  go_enter Try.func58, Try.ntmps58
  go_wp2_with (fail)
  go_loopw [17] (fun i wr => ∃ (k : Nat), k ≤ N ∧ i = .int .i64 k ∧ Below W.heap.size W wr ∧ ∀ j, j < k → (l.map Sc.con)[j]? = (m.map Sc.con)[j]?) (fun i _ => N - (intOf i).toNat)
  case atStart => exact ⟨0, by omega, rfl, hb0, fun j h => absurd h (Nat.not_lt_zero _)⟩
  case round =>
    rename World => wr
    obtain ⟨k, hk, rfl, hbw, heq⟩ := hrel
    have HQ := hid heq
    clear hb0 heq
    have HBW := hid hbw
    by_cases hlt : k < N
    · have hkI : (k : Int) < N := by omega
      have k1 : k < l.length := by rw [← HN.out.1]; exact hlt
      have k2 : k < m.length := by rw [← HN.out.2]; exact hlt
      have rA := HH.out.1.below hbw
      have rB := HH.out.2.below hbw
      obtain ⟨b1, o1, rfl, hbl1, -⟩ := rA.at (by rw [flat_len Sc.cells 6 (fun _ => rfl)]; omega)
      obtain ⟨b2, o2, rfl, hbl2, -⟩ := rB.at (by rw [flat_len Sc.cells 6 (fun _ => rfl)]; omega)
      obtain ⟨a0, a1, a2, a3, a4, a5⟩ := sc_cells rA k k1
      obtain ⟨d0, d1, d2, d3, d4, d5⟩ := sc_cells rB k k2
      have HX : Hid ((l.map Sc.con)[k]? = some l[k].con ∧ (m.map Sc.con)[k]? = some m[k].con) := ⟨by simp [k1], by simp [k2]⟩
      have HXO : Hid (l[k].rd W ∧ m[k].rd W) := ⟨HK.out.1 _ (List.getElem_mem _), HK.out.2 _ (List.getElem_mem _)⟩
      clear rA rB
      generalize l[k] = x at *
      generalize m[k] = y at *
      have HSA : Hid (∀ w1, Below W.heap.size W w1 → Calls Try.prog 59 #[.agg x.cells.toArray, .agg y.cells.toArray] w1 fun e w' => e = .returned (.bool (decide (x.con = y.con))) ∧ Below w1.heap.size w1 w') := fun w1 hw => samec_any x y w1 (HXO.out.1.below hw) (HXO.out.2.below hw)
      obtain ⟨q, hq⟩ : ∃ q, q = decide (x.con = y.con) := ⟨_, rfl⟩
      have HQQ := hid hq
      rw [← hq] at HSA
      obtain ⟨an, ak, aa, az, ad, adp, adc, ar, arp, arc⟩ := x
      obtain ⟨bn, bk, ba, bz, bd, bdp, bdc, br, brp, brc⟩ := y
      unfold Sc.cells at HSA
      dsimp only at HSA a0 a1 a2 a3 a4 a5 d0 d1 d2 d3 d4 d5
      clear hq HXO
      cases q with
      | false =>
        have hBf : Hid (B = false) := by
          show _ = _
          rw [HB.out]; refine decide_eq_false fun e => ?_
          rw [e] at HX
          have e3 := Option.some.inj (HX.out.1.symm.trans HX.out.2)
          have := HQQ.out
          rw [decide_eq_true e3] at this; cases this
        go_wp2_with (go_at_call 59; go_loud ((with_reducible refine (HSA.out _ ?_).mono ?_); exact (HBW.out.alloc HBW.out.size _).alloc (by simp; have := HBW.out.size; omega) _; rintro e w3 ⟨rfl, hb3⟩))
        go_ret
        exact ⟨ret_bool hBf.out.symm, ((HBW.out.alloc HBW.out.size _).alloc (by simp; have := HBW.out.size; omega) _).trans (hb3.mono (by simp; have := HBW.out.size; omega))⟩
      | true =>
        have hxy := of_decide_eq_true HQQ.out.symm
        have HXY := hid hxy
        clear hxy
        go_wp2_with (go_at_call 59; go_loud ((with_reducible refine (HSA.out _ ?_).mono ?_); exact (HBW.out.alloc HBW.out.size _).alloc (by simp; have := HBW.out.size; omega) _; rintro e w3 ⟨rfl, hb3⟩; have HB3 := hid hb3; clear hb3))
        exact ⟨⟨k + 1, by omega, by go_num, ((HBW.out.alloc HBW.out.size _).alloc (by simp; have := HBW.out.size; omega) _).trans (HB3.out.mono (by simp; have := HBW.out.size; omega)), fun j hj => by
          by_cases e : j = k
          · subst e; rw [HX.out.1, HX.out.2, HXY.out]
          · exact HQ.out j (by omega)⟩, by simp [intOf]; omega⟩
    · have hke : k = N := by omega
      subst hke
      have hBt : Hid (B = true) := by
        show _ = _
        rw [HB.out]; refine decide_eq_true (List.ext_getElem? fun j => ?_)
        by_cases hj : j < k
        · exact HQ.out j hj
        · rw [List.getElem?_eq_none (by have := HN.out.1; simp; omega), List.getElem?_eq_none (by have := HN.out.2; simp; omega)]
      go_wp2_with (fail)
      go_ret
      exact ⟨ret_bool hBt.out.symm, HBW.out⟩
theorem obcon_eq (a b : Ob) : a.con = b.con ↔ a.secs.map Sc.con = b.secs.map Sc.con ∧ a.syms = b.syms := by
  unfold Ob.con
  simp
/-- The code's Same: whether two objects hold the same. -/
theorem same_any (a b : Ob) (w : World) (ha : a.rd w) (hb : b.rd w) : Calls Try.prog 31 #[.agg a.cells.toArray, .agg b.cells.toArray] w fun e w' => e = .returned (.bool (decide (a.con = b.con))) ∧ Below w.heap.size w w' := by
  have HSE : Hid (∀ w1, Below w.heap.size w w1 → Calls Try.prog 58 #[.slice a.sp a.secs.length a.sc, .slice b.sp b.secs.length b.sc, .func (.func 59) #[] #[]] w1 fun e w' => e = .returned (.bool (decide (a.secs.map Sc.con = b.secs.map Sc.con))) ∧ Below w1.heap.size w1 w') := fun w1 h1 =>
    esecs_any _ _ _ _ a.secs b.secs w1 (ha.secs.below h1) (hb.secs.below h1) (sc_ok_list ha.each h1) (sc_ok_list hb.each h1) (by have := ha.scap; omega) (by have := hb.scap; omega)
  have HSY : Hid (∀ w1, Below w.heap.size w w1 → Calls Try.prog 33 #[.slice a.yp a.syms.length a.yc, .slice b.yp b.syms.length b.yc] w1 fun e w' => e = .returned (.bool (decide (a.syms = b.syms))) ∧ Below w1.heap.size w1 w') := fun w1 h1 =>
    esyms_any _ _ _ _ a.syms b.syms w1 (ha.syms.below h1) (hb.syms.below h1) (by have := ha.ycap; omega) (by have := hb.ycap; omega)
  have hD : decide (a.con = b.con) = (decide (a.secs.map Sc.con = b.secs.map Sc.con) && decide (a.syms = b.syms)) := by
    rw [Bool.eq_iff_iff]; simp [obcon_eq]
  obtain ⟨D, hDD⟩ : ∃ D, D = decide (a.con = b.con) := ⟨_, rfl⟩
  rw [← hDD] at hD ⊢
  clear hDD ha hb
  obtain ⟨W2, hW2⟩ : ∃ W2, W2 = (w.alloc (.cells a.cells.toArray 25)).alloc (.cells b.cells.toArray 25) := ⟨_, rfl⟩
  have hbx : Below w.heap.size w W2 := by rw [hW2]; exact ((Below.refl _ _).alloc (Nat.le_refl _) _).alloc (by simp) _
  have hy1 : W2.heap[w.heap.size]? = some (.cells a.cells.toArray 25 (0, 0)) := by rw [hW2]; exact (Below.heap_alloc _ _ _ (by simp)).trans (heap_alloc_new _ _)
  have hy2 : W2.heap[w.heap.size + 1]? = some (.cells b.cells.toArray 25 (0, 0)) := by
    have := heap_alloc_new (w.alloc (.cells a.cells.toArray 25)) (.cells b.cells.toArray 25)
    rw [World.size_alloc] at this
    rw [hW2]; exact this
  have HW2 := hid hW2
  obtain ⟨sa, sap, sac, ya, yap, yac⟩ := a
  obtain ⟨sb, sbp, sbc, yb, ybp, ybc⟩ := b
  unfold Ob.cells at hy1 hy2 HW2
  dsimp only at HSE HSY hD hy1 hy2 HW2
  have HY := hid (And.intro hy1 hy2)
  show Calls Try.prog 31 #[.agg #[.slice sap sa.length sac, .slice yap ya.length yac], .agg #[.slice sbp sb.length sbc, .slice ybp yb.length ybc]] w _
  obtain ⟨DD, hDD⟩ : ∃ q, q = decide (sa.map Sc.con = sb.map Sc.con) := ⟨_, rfl⟩
  rw [← hDD] at HSE hD
  have H := hid hD
  have c0 := cell_of_row _ _ 0 _ _ _ hy1
  have d0 := cell_of_row _ _ 0 _ _ _ hy2
  simp only [List.getElem?_toArray, List.getElem?_cons_zero, List.getElem?_cons_succ] at c0 d0
  have hz1 : w.heap.size < W2.heap.size := (Array.getElem?_eq_some_iff.1 hy1).1
  have hz2 : w.heap.size + 1 < W2.heap.size := (Array.getElem?_eq_some_iff.1 hy2).1
  clear hDD hD hy1 hy2 hW2
  go_enter Try.func31, Try.ntmps31
  go_upto_region 1 with (fail)
  rw [← HW2.out]
  go_wp2_with (fail)
  refine (HSE.out _ hbx).mono ?_
  rintro e w3 ⟨rfl, hb3⟩
  have HB3 := hid (hbx.trans (hb3.mono hbx.size))
  have q1 := (hb3.block _ hz1).trans HY.out.1
  have q2 := (hb3.block _ hz2).trans HY.out.2
  have c1 := cell_of_row _ _ 1 _ _ _ q1
  have d1 := cell_of_row _ _ 1 _ _ _ q2
  simp only [List.getElem?_toArray, List.getElem?_cons_zero, List.getElem?_cons_succ] at c1 d1
  clear hb3 q1 q2 c0 d0
  dsimp only
  cases DD with
  | false =>
    go_wp2_with fail
    go_ret
    exact ⟨ret_bool (by rw [H.out]; rfl), HB3.out⟩
  | true =>
    go_wp2_with fail
    refine (HSY.out _ HB3.out).mono ?_
    rintro e w4 ⟨rfl, hb4⟩
    have HB4 := hid (HB3.out.trans (hb4.mono HB3.out.size))
    clear hb4
    dsimp only
    go_wp2_with fail
    go_ret
    exact ⟨ret_bool (by rw [H.out, Bool.true_and]), HB4.out⟩
end Go.Proofs.Yteccpmmedpkddaa
