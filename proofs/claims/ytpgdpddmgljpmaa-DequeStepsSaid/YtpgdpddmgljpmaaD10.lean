/-
  New, where nothing is wrong.
-/
import Derived.Test.YtpgdpddmgljpmaaD9
import Derived.Test.YtpgdpddmgljpmaaAppStep
namespace Go.Proofs.Ytpgdpddmgljpmaa
open Go.RowKit
variable {w w' : World} {base d P c : Nat} {hsv : Value} {hb : Nat → Nat} {sv wv : Nat → Value} {S : Dq}

theorem E55 : Elem Try.prog 55 63 1 8 (.pointer none) := Elem.mk' Try.underlying55 (by kernel_rfl) rfl (by decide)
theorem dat_kept {w w' : World} {d : Nat} {D : DB} {row : Option Nat} (hg : w.grownBy w' row) (h : DAt w d D) (hr : some d ≠ row) : DAt w' d D := h.kept hg hr
def opOk (o : Int × Int) : Prop := (o.1 = 1 ∨ o.1 = 2) ∧ (o.1 = 2 → o.2 = 0)
/-- A new deque. -/
def newDq (r : Nat) (own : List (Int × Int)) (th : List Int) : Dq := ⟨0, 0, 0, List.replicate r 0, hd0 own :: th.map (fun n => hd0 (List.replicate n.toNat (3, 0)))⟩
theorem sum_take (l : List Int) (k : Nat) (hk : k < l.length) : (l.take (k + 1)).sum = (l.take k).sum + l[k] := by
  rw [take_succ l k hk, List.sum_append]; simp

theorem made43 (r : Nat) : madeCells (Value.int .i64 0).cells (r * 1) = ((List.replicate r (0 : Int)).map i64).toArray := by
  have hc : (Value.int .i64 0).cells = #[.int .i64 0] := rfl
  rw [hc]
  apply Array.toList_inj.1
  have hall : ∀ v ∈ (madeCells #[.int .i64 0] (r * 1)).toList, v = i64 0 := by
    intro v hv
    simp only [madeCells, Array.toList_map, List.mem_map] at hv
    obtain ⟨j, _, rfl⟩ := hv
    have : j % 1 = 0 := by omega
    simp [this]
  rw [List.eq_replicate_of_mem hall]
  simp [madeCells]
set_option maxRecDepth 100000 in
theorem mk43 (w : World) (r : Nat) (hr : r ≤ 256) : (Instr.makeSlice 43 (.int .i64 r) (.int .i64 r)).run Try.prog w = .ok (.slice (some ⟨w.heap.size, 0, none⟩) r r) (w.alloc (.cells ((List.replicate r (0 : Int)).map i64).toArray 2)) := by
  obtain ⟨i, hi, hz, hsz, hby⟩ := E43.info
  have h1 : (0 : Int) ≤ r := Int.natCast_nonneg _
  have h2 : (r : Int) ≤ 256 := by omega
  have h3 : (i.bytes : Int) * r ≤ 281474976710656 := by rw [hby]; omega
  have h4 : (r : Int) ≤ 9223372036854775807 := by omega
  have := run_make (P := Try.prog) w 43 2 i _ E43.desc hi hz .i64 .i64 r r h1 (Int.le_refl _) h3 h4
  rw [Int.toNat_natCast, hsz, made43] at this
  exact this

theorem Below.allocS (h : Below w.heap.size w w') (o : Obj) : Below w.heap.size w (w'.alloc o) := h.alloc h.size o
theorem heap_alloc_at (w : World) (o : Obj) (k : Nat) (hk : k = w.heap.size) : (w.alloc o).heap[k]? = some o := by subst hk; exact heap_alloc_new w o
theorem WorkAt.alloc {v : Value} {ops : List (Int × Int)} (h : WorkAt w v ops) (o : Obj) : WorkAt (w.alloc o) v ops := h.only ((Only.refl w).alloc o) (fun _ _ h => by cases h)
theorem repl_arr (r : Nat) : ((List.replicate r (0 : Int)).map i64).toArray = Array.replicate r (i64 0) := by apply Array.toList_inj.1; simp
theorem newDq_is {h hsb r : Nat} {v : Value} {own : List (Int × Int)} (hd : w.heap[d]? = some (.cells #[.int .i64 0, .int .i64 0, .slice (some ⟨P, 0, none⟩) r r, .int .i64 0, .slice (some ⟨hsb, 0, none⟩) 1 1] 57))
    (hP : w.heap[P]? = some (.cells (Array.replicate r (i64 0)) 2)) (hhs : w.heap[hsb]? = some (.cells #[.pointer (some ⟨h, 0, none⟩)] 63)) (hh : w.heap[h]? = some (.cells #[v, .slice none 0 0, .int .i64 0, .int .i64 0, .int .i64 0, .int .i64 0, .bool false] 66))
    (hw : WorkAt w v own) (b1 : base ≤ d) (b2 : base ≤ P) (b3 : base ≤ hsb) (b4 : base ≤ h) (hr : r ≤ 256) :
    DqIs w base d P r (.slice (some ⟨hsb, 0, none⟩) 1 1) (fun _ => h) (fun _ => .slice none 0 0) (fun _ => v) (newDq r own []) := by
  have hlt := (Array.getElem?_eq_some_iff.1 hd).1
  refine ⟨?_, ?_, ?_, ?_, ?_, ?_, ?_, ?_, by omega, b1, b2, fun i _ => b4⟩
  · show w.heap[d]? = _
    simp only [newDq, List.length_replicate]
    exact hd
  · show w.heap[P]? = some (.cells (((newDq r own []).pl).map i64).toArray 2 (0, 0))
    rw [show (newDq r own []).pl = List.replicate r 0 from rfl, repl_arr]; exact hP
  · show w.ownsRow base 63 1 _ 1 _
    refine ⟨by simp [newDq], .inr ⟨hsb, 1, _, rfl, b3, hhs, Nat.le_refl _, by decide, rfl, rfl⟩⟩
  · intro i hi
    have : i = 0 := by simp [newDq] at hi; omega
    subst this
    exact hh
  · intro i hi
    have : i = 0 := by simp [newDq] at hi; omega
    subst this
    exact World.ownsRow_nil _ _ _ _
  · intro i hi
    have : i = 0 := by simp [newDq] at hi; omega
    subst this
    exact hw
  · intro i j hi hj _
    simp [newDq] at hi hj; omega
  · intro i j hi hj hne
    simp [newDq] at hi hj; omega
theorem heap_alloc_if (w : World) (o : Obj) (k : Nat) : (w.alloc o).heap[k]? = if k = w.heap.size then some o else w.heap[k]? := by
  show (w.heap.push o)[k]? = _
  rw [Array.getElem?_push]
theorem heap_alloc_miss (w : World) (o : Obj) (k : Nat) (hk : k ≠ w.heap.size) : (w.alloc o).heap[k]? = w.heap[k]? := by rw [heap_alloc_if, if_neg hk]
theorem rowR_full (n : Nat) : rowR n n = opCells (List.replicate n (3, 0)) := by unfold rowR; simp
/-- A hand more, as New lays it. -/
theorem new_hand {w0 wr wq w4 : World} {r k n g m hc' hc4 : Nat} {hp hp4 : Option Addr} {own : List (Int × Int)} {th : List Int} (H : DqIs wr w0.heap.size d P c hsv hb sv wv (newDq r own (th.take k))) (HTS : th.take (k + 1) = th.take k ++ [(n : Int)]) (HSV : hsv = .slice hp m hc')
    (HM : m = (newDq r own (th.take k)).hs.length) (hbc : Below w0.heap.size w0 wr) (hq : Below wr.heap.size wr wq) (hg : wq.heap[g]? = some (.cells (rowR n n).toArray 27 (0, 0))) (hgl : wr.heap.size ≤ g) {B : Obj}
    (hg4 : ((wq.alloc (.cells #[.slice (some ⟨g, 0, none⟩) n n, .slice none 0 0, .int .i64 0, .int .i64 0, .int .i64 0, .int .i64 0, .bool false] 66)).alloc B).grownBy w4 (Value.slice hp m hc').ownBlock)
    (ho4 : w4.ownsRow w0.heap.size 63 1 (.slice hp4 (m + 1) hc4) (m + 1) (List.map (fun i => Value.pointer (some ⟨hb i, 0, none⟩)) (List.range m) ++ [Value.pointer (some ⟨wq.heap.size, 0, none⟩)])) :
    ∃ hb' sv' wv', DqIs (w4.setCell ⟨d, 4, none⟩ (.slice hp4 (m + 1) hc4)) w0.heap.size d P c (.slice hp4 (m + 1) hc4) hb' sv' wv' (newDq r own (th.take (k + 1))) ∧ Below w0.heap.size w0 (w4.setCell ⟨d, 4, none⟩ (.slice hp4 (m + 1) hc4)) := by
  subst HSV
  have hsq := hq.size
  have hsc := hbc.size
  have hown := (H.drewB hq).hown
  have hlt : ∀ g', (Value.slice hp m hc').ownBlock = some g' → g' < wr.heap.size := fun g' h' => own_lt H.hown g' h'
  have hge := own_ge H.hown
  have hAt : HAt w4 wq.heap.size ⟨.slice (some ⟨g, 0, none⟩) n n, .slice none 0 0, 0, 0, 0, 0, false⟩ := by
    refine (hg4.block _ (by simp; omega) (fun e => by have := hlt _ e.symm; omega)).trans ?_
    exact (heap_alloc_miss _ _ _ (by simp)).trans (heap_alloc_at _ _ _ rfl)
  have hgq : g < wq.heap.size := (Array.getElem?_eq_some_iff.1 hg).1
  have hW : WorkAt w4 (.slice (some ⟨g, 0, none⟩) n n) (List.replicate n (3, 0)) := by
    have hgb : w4.heap[g]? = some (.cells (rowR n n).toArray 27 (0, 0)) := by
      refine (hg4.block _ (by simp; omega) (fun e => by have := hlt _ e.symm; omega)).trans ?_
      exact (heap_alloc_miss _ _ _ (by simp; omega)).trans ((heap_alloc_miss _ _ _ (by omega)).trans hg)
    refine ⟨some ⟨g, 0, none⟩, n, by simp, ?_, fun a ha _ => ?_⟩
    · intro _
      refine ⟨g, 0, rfl, fun i hi => ?_⟩
      rw [cell_of_row w4 g (0 + i) _ _ _ hgb]
      simp [rowR_full, hi]
    · cases ha; exact ⟨_, _, hgb⟩
  have hO : Only [(Value.slice hp m hc').ownBlock] wq w4 := (((Only.refl wq).alloc _).alloc _ |>.trans (Only.grown hg4)).less (fun _ _ h => by simpa using h)
  have hD := (H.drewB hq).addHand (h := wq.heap.size) hO (hsv' := .slice hp4 (m + 1) hc4) (by rw [← HM]; exact ho4) hAt (Nat.le_refl _) hW
  have e : ({ newDq r own (th.take k) with hs := (newDq r own (th.take k)).hs ++ [hd0 (List.replicate n (3, 0))] } : Dq) = newDq r own (th.take (k + 1)) := by
    rw [HTS]; simp [newDq]
  rw [e] at hD
  refine ⟨_, _, _, hD, ?_⟩
  have hb1 : Below w0.heap.size w0 w4 := (Below.allocS (Below.allocS (hbc.trans (hq.mono hsc)) _) _).grown hg4 (by simp; omega) hge
  exact hb1.setCell (p := ⟨d, 4, none⟩) H.bd _
structure NewIn (w : World) (p1 : Option Addr) (c1 : Nat) (own : List (Int × Int)) (p2 : Option Addr) (c2 : Nat) (th : List Int) : Prop where
  r1 : Row w p1 (opCells own)
  r2 : Row w p2 (ints th)
  n1 : p1 = none → c1 = 0
  l1 : own.length ≤ c1
  l2 : th.length ≤ c2
theorem NewIn.below {p1 : Option Addr} {c1 : Nat} {own : List (Int × Int)} {p2 : Option Addr} {c2 : Nat} {th : List Int} (h : NewIn w p1 c1 own p2 c2 th) (hb : Below w.heap.size w w') : NewIn w' p1 c1 own p2 c2 th := ⟨h.r1.below hb, h.r2.below hb, h.n1, h.l1, h.l2⟩

set_option maxHeartbeats 1000000 in
theorem new_ok (r : Nat) (hr1 : 1 ≤ r) (hr2 : r ≤ 256) (p1 : Option Addr) (c1 : Nat) (own : List (Int × Int)) (p2 : Option Addr) (c2 : Nat) (th : List Int) (HI : NewIn w p1 c1 own p2 c2 th)
    (hth : th.length ≤ 63) (hneg : ∀ n ∈ th, 0 ≤ n) (hsum : own.length + th.sum ≤ 4096) (hops : ∀ o ∈ own, opOk o) :
    Calls Try.prog 10 #[.int .i64 r, .slice p1 own.length c1, .slice p2 th.length c2] w fun e w' => ∃ d P c hsv hb sv wv, e = .returned (.tuple #[.pointer (some ⟨d, 0, none⟩), .int .i64 0]) ∧ DqIs w' w.heap.size d P c hsv hb sv wv (newDq r own th) ∧ Below w.heap.size w w' := by
  have hany : th.any (fun n => decide (n < 0)) = false := by
    rw [List.any_eq_false]; intro n hn; have := hneg n hn; simp; omega
  have HC := hid (contains_any p2 c2 th hth HI.r2)
  rw [hany] at HC
  have HNEG := hid hneg
  have HOPS := hid hops
  have htake : ∀ k, 0 ≤ (th.take k).sum ∧ (th.take k).sum ≤ th.sum := fun k => by
    have h0 : ∀ l : List Int, (∀ n ∈ l, 0 ≤ n) → 0 ≤ l.sum := fun l hl => by
      induction l with
      | nil => simp
      | cons a b ih => rw [List.sum_cons]; have := hl a (by simp); have := ih (fun n hn => hl n (by simp [hn])); omega
    have h1 := h0 (th.take k) (fun n hn => HNEG.out n (List.mem_of_mem_take hn))
    have h2 := h0 (th.drop k) (fun n hn => HNEG.out n (List.mem_of_mem_drop hn))
    have h3 : th.sum = (th.take k).sum + (th.drop k).sum := by rw [← List.sum_append, List.take_append_drop]
    omega
  have HTK := hid htake
  have hol0 : (own.length : Int) ≤ 4096 := by have := htake 0; simp at this; omega
  have HCL := hid (fun w1 (hb : Below w.heap.size w w1) => cloneO_any (w := w1) p1 c1 own (by omega) HI.n1 (HI.r1.below hb))
  have HMK := hid (fun w => mk43 w r hr2)
  have hol : (own.length : Int) ≤ 4096 := by have := htake 0; simp at this; omega
  clear hany hneg hops htake
  go_enter Try.func10, Try.ntmps10
  go_wp2_with (go_at_call 33; refine HC.out.mono ?_; rintro e w2 ⟨rfl, hw2⟩; rw [hw2]; clear hw2)
  go_loopw [8, 36] (fun v i wr => ∃ k : Nat, k ≤ th.length ∧ i = .int .i64 k ∧ v = .int .i64 (4096 - own.length - (th.take k).sum) ∧ wr = w) (fun _ i _ => th.length - (intOf i).toNat)
  case atStart => exact ⟨0, Nat.zero_le _, rfl, by simp, rfl⟩
  case round =>
    obtain ⟨k, hk, rfl, rfl, rfl⟩ := hrel
    have hsk := HTK.out k
    by_cases hlt : k < th.length
    · obtain ⟨b, o, rfl, _, hcell⟩ := HI.r2.at (by simp; omega)
      have hck := hcell k (by simpa using hlt)
      simp only [List.getElem_map] at hck
      have hS := hid (sum_take th k hlt)
      have hs2 := HTK.out (k + 1)
      rw [hS.out] at hs2
      have hkI : (k : Int) < th.length := by omega
      have hn0 := HNEG.out _ (List.getElem_mem hlt)
      clear hcell
      generalize th[k] = x at *
      generalize (th.take k).sum = s at *
      have g1 : ¬ (4096 - (own.length : Int) - s < 0) := by omega
      have g2 : ¬ (4096 - (own.length : Int) - s < x) := by omega
      go_wp2
      go_roundw
      case rel => exact ⟨k + 1, by omega, by go_num, by rw [hS.out]; show Value.int .i64 _ = Value.int .i64 _; congr 1; omega, trivial⟩
      case measure => simp [intOf]; omega
    · obtain rfl : k = th.length := by omega
      have ht : (th.take th.length).sum = th.sum := by rw [List.take_length]
      rw [ht]
      have g1 : ¬ (4096 - (own.length : Int) - th.sum < 0) := by omega
      clear hsk ht
      go_wp2
      obtain ⟨w0, hw0⟩ : ∃ w0, w0 = wr := ⟨_, rfl⟩
      subst hw0
      go_loopw [55] (fun i wx => ∃ k : Nat, k ≤ own.length ∧ i = .int .i64 k ∧ Below w0.heap.size w0 wx) (fun i _ => own.length - (intOf i).toNat)
      case atStart => exact ⟨0, Nat.zero_le _, rfl, Below.refl _ _⟩
      case round =>
        obtain ⟨k, hk, rfl, hbx⟩ := hrel
        by_cases hlt : k < own.length
        · obtain ⟨b, o, rfl, hbw, _⟩ := (HI.below hbx).r1.at (by rw [opCells_len]; omega)
          obtain ⟨o1, o2⟩ := op_cells (HI.below hbx).r1 k hlt
          have hkI : (k : Int) < own.length := by omega
          have hok := HOPS.out _ (List.getElem_mem hlt)
          generalize own[k] = x at *
          obtain ⟨x1, x2⟩ := x
          obtain ⟨k1, k2⟩ := hok
          dsimp only at o1 o2 k1 k2
          have hsz := hbx.size
          have HB1 := hid (hbx.alloc hsz (.cells #[.int .i64 x1, .int .i64 x2] 27))
          rcases k1 with rfl | rfl
          · clear k2
            go_wp2
            go_roundw
            case rel => exact ⟨k + 1, by omega, by go_num, HB1.out⟩
            case measure => simp [intOf]; omega
          · obtain rfl := k2 rfl
            clear k2
            go_wp2
            go_roundw
            case rel => exact ⟨k + 1, by omega, by go_num, HB1.out⟩
            case measure => simp [intOf]; omega
        · go_upto_region 19 with (fail)
          have hszx := hbx.size
          go_cut [13] from 78 (fun v wx => ∃ d P c hsv hb sv wv, v = .pointer (some ⟨d, 0, none⟩) ∧ DqIs wx w0.heap.size d P c hsv hb sv wv (newDq r own []) ∧ Below w0.heap.size w0 wx)
          case first =>
            have hmk := HMK.out
            go_region_held3 (fun w' => Below w0.heap.size w0 w') (first | exact hbx.drew | assumption | exact Below.allocS (by assumption) _)
              (first
                | (go_at_call 35; refine (HCL.out _ (by first | assumption | exact hbx.drew | exact Below.allocS (by assumption) _)).mono ?_; rintro e wq ⟨v, rfl, hov, hbq⟩; have HOV := hid hov; obtain ⟨vp, vc, rfl, _⟩ := own_row hov; clear hov; have hq := Below.trans (by first | assumption | exact hbx.drew | exact Below.allocS (by assumption) _) (hbq.mono (by simp; omega))))
            · have hwk := WorkAt.of_own HOV.out
              have hszq := hq.size
              have hzb : wr.heap.size + 1 ≤ wq.heap.size := Nat.le_trans (by simp) hbq.size
              go_wp2_with fail
              go_meet
              exact ⟨_, _, _, _, _, _, _, rfl, newDq_is (h := wq.heap.size) (v := .slice vp own.length vc) (heap_alloc_at _ _ _ (by simp)) ((heap_alloc_miss _ _ _ (by simp only [World.size_alloc]; omega)).trans ((heap_alloc_miss _ _ _ (by simp only [World.size_alloc]; omega)).trans ((heap_alloc_miss _ _ _ (by omega)).trans ((hbq.block _ (by simp)).trans (heap_alloc_new wr _))))) ((heap_alloc_miss _ _ _ (by simp only [World.size_alloc]; omega)).trans (heap_alloc_at _ _ _ (by simp))) ((heap_alloc_miss _ _ _ (by simp only [World.size_alloc]; omega)).trans ((heap_alloc_miss _ _ _ (by simp only [World.size_alloc]; omega)).trans (heap_alloc_at _ _ _ rfl))) (WorkAt.alloc (WorkAt.alloc (WorkAt.alloc hwk _) _) _) (by omega) (by omega) (by omega) (by omega) hr2, by assumption⟩
            · have hwk := WorkAt.of_own HOV.out
              have hszq := hq.size
              have hzb : wr.heap.size ≤ wq.heap.size := Nat.le_trans (by simp) hbq.size
              go_wp2_with fail
              go_meet
              exact ⟨_, _, _, _, _, _, _, rfl, newDq_is (h := wq.heap.size + 1) (v := .slice vp own.length vc) (heap_alloc_at _ _ _ (by simp)) ((heap_alloc_miss _ _ _ (by simp only [World.size_alloc]; omega)).trans ((heap_alloc_miss _ _ _ (by simp only [World.size_alloc]; omega)).trans ((heap_alloc_miss _ _ _ (by simp only [World.size_alloc]; omega)).trans (heap_alloc_at _ _ _ rfl)))) ((heap_alloc_miss _ _ _ (by simp only [World.size_alloc]; omega)).trans (heap_alloc_at _ _ _ (by simp))) ((heap_alloc_miss _ _ _ (by simp only [World.size_alloc]; omega)).trans ((heap_alloc_miss _ _ _ (by simp only [World.size_alloc]; omega)).trans (heap_alloc_at _ _ _ (by simp)))) (WorkAt.alloc (WorkAt.alloc (WorkAt.alloc (WorkAt.alloc hwk _) _) _) _) (by omega) (by omega) (by omega) (by omega) hr2, by assumption⟩
            · have hwk := WorkAt.of_own HOV.out
              have hszq := hq.size
              have hzb : wr.heap.size ≤ wq.heap.size := Nat.le_trans (by simp) hbq.size
              go_wp2_with fail
              go_meet
              exact ⟨_, _, _, _, _, _, _, rfl, newDq_is (h := wq.heap.size) (v := .slice vp own.length vc) (heap_alloc_at _ _ _ (by simp)) ((heap_alloc_miss _ _ _ (by simp only [World.size_alloc]; omega)).trans ((heap_alloc_miss _ _ _ (by simp only [World.size_alloc]; omega)).trans (heap_alloc_at _ _ _ (by simp)))) ((heap_alloc_miss _ _ _ (by simp only [World.size_alloc]; omega)).trans (heap_alloc_at _ _ _ (by simp))) ((heap_alloc_miss _ _ _ (by simp only [World.size_alloc]; omega)).trans ((heap_alloc_miss _ _ _ (by simp only [World.size_alloc]; omega)).trans ((heap_alloc_miss _ _ _ (by simp only [World.size_alloc]; omega)).trans (heap_alloc_at _ _ _ rfl)))) (WorkAt.alloc (WorkAt.alloc (WorkAt.alloc (WorkAt.alloc hwk _) _) _) _) (by omega) (by omega) (by omega) (by omega) hr2, by assumption⟩
            · have hwk := WorkAt.of_own HOV.out
              have hszq := hq.size
              have hzb : wr.heap.size ≤ wq.heap.size := Nat.le_trans (by simp) hbq.size
              go_wp2_with fail
              go_meet
              exact ⟨_, _, _, _, _, _, _, rfl, newDq_is (h := wq.heap.size) (v := .slice vp own.length vc) (heap_alloc_at _ _ _ (by simp)) ((heap_alloc_miss _ _ _ (by simp only [World.size_alloc]; omega)).trans (heap_alloc_at _ _ _ (by simp))) ((heap_alloc_miss _ _ _ (by simp only [World.size_alloc]; omega)).trans ((heap_alloc_miss _ _ _ (by simp only [World.size_alloc]; omega)).trans (heap_alloc_at _ _ _ (by simp)))) ((heap_alloc_miss _ _ _ (by simp only [World.size_alloc]; omega)).trans ((heap_alloc_miss _ _ _ (by simp only [World.size_alloc]; omega)).trans ((heap_alloc_miss _ _ _ (by simp only [World.size_alloc]; omega)).trans (heap_alloc_at _ _ _ rfl)))) (WorkAt.alloc (WorkAt.alloc (WorkAt.alloc (WorkAt.alloc hwk _) _) _) _) (by omega) (by omega) (by omega) (by omega) hr2, by assumption⟩
          case rest =>
            obtain ⟨d, P, c, hsv, hb, sv, wv, rfl, HD, hbc⟩ := hcut
            clear HMK HCL HC
            go_wp2_with fail
            go_loopw [90] (fun i wx => ∃ (k : Nat) (hsv : Value) (hb : Nat → Nat) (sv wv : Nat → Value), k ≤ th.length ∧ i = .int .i64 k ∧ DqIs wx w0.heap.size d P c hsv hb sv wv (newDq r own (th.take k)) ∧ Below w0.heap.size w0 wx) (fun i _ => th.length - (intOf i).toNat)
            case atStart => exact ⟨0, _, _, _, _, Nat.zero_le _, rfl, HD, hbc⟩
            case round =>
              clear HD hbc
              obtain ⟨k, hsv, hb, sv, wv, hk, rfl, HD, hbc⟩ := hrel
              have hszc := hbc.size
              by_cases hlt : k < th.length
              · obtain ⟨b, o, rfl, _, hcell⟩ := (HI.below hbc).r2.at (by simp; omega)
                have hck := hcell k (by simpa using hlt)
                simp only [List.getElem_map] at hck
                have hkI : (k : Int) < th.length := by omega
                have hx0 := HNEG.out _ (List.getElem_mem hlt)
                have HTS := hid (take_succ th k hlt)
                have hs2 := HTK.out (k + 1)
                rw [sum_take th k hlt] at hs2
                have hs3 := HTK.out k
                clear hcell
                generalize th[k] = x at *
                obtain ⟨n, rfl⟩ : ∃ n : Nat, x = n := ⟨x.toNat, by omega⟩
                have hn : n ≤ 100000 := by omega
                have hl1 : (newDq r own (th.take k)).hs.length = k + 1 := by simp [newDq]; omega
                have HOWN := hid (fun w1 (hb1 : Below wr.heap.size wr w1) => (HD.drewB hb1).hown)
                have HDD := hid (fun w1 (hb1 : Below wr.heap.size wr w1) => (HD.drewB hb1).dd)
                obtain ⟨hp, hc', hhs, hcc, _, _, _, _⟩ := own_row HD.hown
                have g4 : ∀ w1, Below wr.heap.size wr w1 → w1.cell? ⟨d, 4, none⟩ = some hsv := fun w1 hb1 => cell_of_row w1 d 4 _ _ _ (HDD.out w1 hb1)
                have g4d := g4 _ (Below.refl _ wr).drew
                have HSV := hid hhs
                rw [hhs] at g4d
                have G4 := hid (fun w1 (hb1 : Below wr.heap.size wr w1) => hhs ▸ g4 w1 hb1)
                clear hhs g4
                have HDH := hid HD
                clear HD
                have hltx : d < wr.heap.size := HDH.out.dd.lt
                obtain ⟨m, hm⟩ : ∃ m, m = (newDq r own (th.take k)).hs.length := ⟨_, rfl⟩
                have hm64 : m ≤ 64 := by omega
                clear hl1
                have HAPP := hid (fun (w1 : World) (hb1 : Below wr.heap.size wr w1) => HSV.out ▸ HOWN.out w1 hb1)
                rw [← hm] at HAPP g4d HSV G4
                have HNOD : Hid (some d ≠ (Value.slice hp m hc').ownBlock) := fun e => by
                  obtain ⟨cur, hc⟩ := own_typeA (HAPP.out wr (Below.refl _ _)) d e.symm
                  have h1 := HDH.out.dd; unfold DAt at h1; rw [h1] at hc; injection hc with hc; injection hc with _ h3; cases h3
                have HM := hid hm
                clear hm
                have HXB : Hid ((wr.alloc (.cells #[.int .i64 3, .int .i64 0] 27)).drew.heap[wr.heap.size]? = some (.cells #[.int .i64 3, .int .i64 0] 27 (0, 0))) := heap_alloc_new _ _
                have hq1 : Below wr.heap.size wr (wr.alloc (.cells #[.int .i64 3, .int .i64 0] 27)).drew := (Below.allocS (Below.refl _ wr) _).drew
                have g4e := G4.out _ hq1
                go_upto_region 23 with (fail)
                go_region_law (first
                  | (go_loud (refine step_app E55 rfl (.tmp 98) (.tmp 105) rfl w0.heap.size (.slice hp m hc') m _ rfl (HAPP.out _ (Below.allocS (Below.allocS (by assumption) _) _)) ⟨_, 0, none⟩ 1 1 [.pointer (some ⟨_, 0, none⟩)] rfl rfl (row_newAt _ _ _ _ (by simp)) (by simp [Value.oneCell']) (by unfold maxLen; omega) (by omega) (by have h1 := HDH.out.bs; have h2 := hq.size; simp; omega) ?_); intro v4 w4 ho4 hg4 hs4; obtain ⟨hp4, hc4, rfl, _⟩ := own_row ho4; have hd4 := dat_kept hg4 (HDD.out _ (Below.allocS (Below.allocS hq _) _)) HNOD.out; have c4 : w4.cell? ⟨d, 4, none⟩ = some hsv := cell_of_row w4 d 4 _ _ _ hd4; have f4 : w4.frozen? ⟨d, 4, none⟩ = false := frozen_of_row w4 d 4 _ _ hd4)
                  | (go_simp; go_at_call 36; refine (repeat_any n hn _ HXB.out).mono ?_; rintro e wq ⟨g, rfl, hg, hge, hbq⟩; have hq : Below wr.heap.size wr wq := hq1.trans (hbq.mono (by simp)); have g4q := G4.out wq hq; have g4r := G4.out _ (Below.allocS hq (.cells #[.slice (some ⟨g, 0, none⟩) n n, .slice none 0 0, .int .i64 0, .int .i64 0, .int .i64 0, .int .i64 0, .bool false] 66)); have g4s := G4.out _ (Below.allocS (Below.allocS hq (.cells #[.slice (some ⟨g, 0, none⟩) n n, .slice none 0 0, .int .i64 0, .int .i64 0, .int .i64 0, .int .i64 0, .bool false] 66)) (.cells #[.pointer (some ⟨wq.heap.size, 0, none⟩)] 63)))
                  )
                all_goals
                  have HN := hid (new_hand HDH.out HTS.out HSV.out HM.out hbc hq hg (by have h1 : (wr.alloc (.cells #[.int .i64 3, .int .i64 0] 27)).drew.heap.size = wr.heap.size + 1 := by simp
                                                                                        omega) hg4 ho4)
                  clear HDH hbc hq hg hge hbq g4q g4r g4s hg4 ho4 hs4 hd4 c4 f4 HAPP G4 HXB hq1 g4e
                  go_wp2_with fail
                  go_roundw
                  case rel =>
                    obtain ⟨hb', sv', wv', hD, hB⟩ := HN.out
                    exact ⟨k + 1, _, hb', sv', wv', by omega, by go_num, hD, hB⟩
                  case measure => simp [intOf]; omega
              · obtain rfl : k = th.length := by omega
                rw [List.take_length] at HD
                have HDH := hid HD
                clear HD
                go_wp2_with fail
                go_ret2
                exact ⟨_, _, _, _, _, _, _, rfl, HDH.out, hbc⟩
end Go.Proofs.Ytpgdpddmgljpmaa
