/-
  define and Is of the document.
  Histories and scripts as they come in.
  The walks of LinearFinds, LinearTries.
-/
import Derived.Test.YtdkknnmgdghioaaJF10
import Derived.Test.YtdkknnmgdghioaaJF0
import Derived.Test.YtdkknnmgdghioaaJF1
import Derived.Test.YtdkknnmgdghioaaJF6
namespace Go.Proofs.Ytdkknnmgdghioaa
open Go.RowKit

/-- A call that may have put a name's value. -/
def candB (l : List Cl) (k : ByteArray) (d : Nat) : Bool := decide ((cAt l d).key = k) && decide ((cAt l d).kind = 1) && decide ((cAt l d).err = 0)
def defTo (l : List Cl) (k : ByteArray) (j : Nat) : Bool := (List.range j).any (fun d => candB l k d && dFits l k d)
def defB (l : List Cl) (k : ByteArray) : Bool := dFits l k (-1) || defTo l k l.length
theorem defTo_succ (l : List Cl) (k : ByteArray) (j : Nat) : defTo l k (j + 1) = (defTo l k j || (candB l k j && dFits l k j)) := by
  unfold defTo; rw [List.range_succ, List.any_append]; simp
theorem defTo_le {l : List Cl} {k : ByteArray} {j n : Nat} (h : j ≤ n) (h1 : defTo l k j = true) : defTo l k n = true := by
  unfold defTo at *
  rw [List.any_eq_true] at *
  obtain ⟨x, hx, hx2⟩ := h1
  exact ⟨x, List.mem_range.2 (Nat.lt_of_lt_of_le (List.mem_range.1 hx) h), hx2⟩
theorem defB_iff {l : List Cl} {k : ByteArray} : defB l k = true ↔ (dFits l k (-1) = true ∨ ∃ d : Nat, dCand l k d ∧ dFits l k d = true) := by
  unfold defB defTo dCand candB
  simp only [Bool.or_eq_true, List.any_eq_true, List.mem_range, Bool.and_eq_true, decide_eq_true_eq]
  constructor
  · rintro (h | ⟨d, h1, ⟨⟨h2, h3⟩, h4⟩, h5⟩)
    · exact .inl h
    · exact .inr ⟨d, ⟨h1, h2, h3, h4⟩, h5⟩
  · rintro (h | ⟨d, ⟨h1, h2, h3, h4⟩, h5⟩)
    · exact .inl h
    · exact .inr ⟨d, h1, ⟨⟨h2, h3⟩, h4⟩, h5⟩
theorem ret_t2 {x : Int} {a b : Bool} (h : a = b) : Ending.returned (.tuple #[.int .i64 x, .bool a]) = Ending.returned (.tuple #[.int .i64 x, .bool b]) := by rw [h]
def DefTell (l : List Cl) (key : ByteArray) (w : World) (e : Ending) (w' : World) : Prop := ∃ d : Int, e = .returned (.tuple #[.int .i64 d, .bool (defB l key)]) ∧ Below w.heap.size w w'
/-- define's loop: -1 first, then all calls. -/
def DefRel (l : List Cl) (key : ByteArray) (w : World) (u : Value) (wr : World) : Prop :=
  ((u = .int .i64 (-1)) ∨ (∃ j : Nat, j ≤ l.length ∧ u = .int .i64 j ∧ dFits l key (-1) = false ∧ defTo l key j = false)) ∧ Below w.heap.size w wr
set_option maxRecDepth 20000 in
set_option maxHeartbeats 4000000 in
theorem define_any (l : List Cl) (p : Option Addr) (c : Nat) (key : ByteArray) (w : World) (hl : l.length ≤ 1000000) (hrow : Row w p (l.flatMap Cl.cells)) :
    Calls Try.prog 25 #[.slice p l.length c, .string key] w (DefTell l key w) := by
  have HR := hid hrow
  clear hrow
  go_enter Try.func25, Try.ntmps25
  go_wp2
  go_loopw [6] (DefRel l key w) (fun u _ => (l.length + 1) - (intOf u + 1).toNat)
  case atStart => exact ⟨.inl rfl, Below.refl _ _⟩
  case round =>
    obtain ⟨(rfl | ⟨j, hj, rfl, hf1, hf2⟩), hb⟩ := hrel
    · have HB := hid hb
      clear hb
      have HF := hid (fun (w1 : World) (hb1 : Below wr.heap.size wr w1) => rfits_any l p c key (-1) w1 hl (by omega) (by omega) ((HR.out.below HB.out).below hb1))
      have hnl : (-1 : Int) < (l.length : Int) := by omega
      cases hf : dFits l key (-1) with
      | true =>
        rw [hf] at HF
        have HV : Hid (defB l key = true) := by unfold Hid defB; rw [hf]; rfl
        clear hf
        go_wp2_with (go_at_call 41; (with_reducible refine (HF.out _ (Below.refl _ _)).mono ?_); rintro e w5 ⟨rfl, hb5⟩)
        go_ret2
        exact ⟨_, ret_t2 HV.out.symm, below_tr hb5 HB.out⟩
      | false =>
        rw [hf] at HF
        have HN := hid hf
        clear hf
        go_wp2_with (go_at_call 41; (with_reducible refine (HF.out _ (Below.refl _ _)).mono ?_); rintro e w5 ⟨rfl, hb5⟩)
        exact ⟨⟨.inr ⟨0, Nat.zero_le _, rfl, HN.out, rfl⟩, below_tr hb5 HB.out⟩, by simp [intOf]⟩
    · have HB := hid hb
      have HF1 := hid hf1
      have HF2 := hid hf2
      clear hb hf1 hf2
      by_cases hlt : j < l.length
      · obtain ⟨bl, ol, rfl, hbl, -⟩ := (HR.out.below HB.out).at (by have := flat_len Cl.cells 8 (fun _ => rfl) l; omega)
        obtain ⟨d0, d1, d2, d3, d4, d5, d6, d7⟩ := cl_cat (HR.out.below HB.out) j hlt
        have HF := hid (fun (w1 : World) (hb1 : Below wr.heap.size wr w1) => rfits_any l (some ⟨bl, ol, none⟩) c key (j : Int) w1 hl (by omega) (by omega) ((HR.out.below HB.out).below hb1))
        have HS := hid (defTo_succ l key j)
        rw [HF2.out, Bool.false_or] at HS
        have HNX : Hid (candB l key j = false → defTo l key (j + 1) = false) := fun h => by rw [HS.out, h]; rfl
        have hj0 : ¬ (j : Int) < 0 := by omega
        have hj1 : decide ((0 : Int) ≤ (j : Int)) = true := decide_eq_true (by omega)
        unfold candB at HNX HS
        by_cases hk : (cAt l j).key = key
        · have hse := strEq hk
          rw [hk] at d2
          by_cases hkd : (cAt l j).kind = 1
          · rw [hkd] at d1
            by_cases he : (cAt l j).err = 0
            · rw [he] at d7
              have HS2 : Hid (defTo l key (j + 1) = dFits l key j) := by rw [Hid, HS.out]; simp [hk, hkd, he]
              clear HS HNX hk hkd he hse
              cases hf : dFits l key (j : Int) with
              | true =>
                rw [hf] at HF
                have HV : Hid (defB l key = true) := by
                  unfold Hid defB
                  rw [defTo_le (show j + 1 ≤ l.length by omega) (HS2.out.trans hf), Bool.or_true]
                clear hf
                go_wp2_with (go_at_call 41; (with_reducible refine (HF.out _ (Below.refl _ _)).mono ?_); rintro e w5 ⟨rfl, hb5⟩)
                go_ret2
                exact ⟨_, ret_t2 HV.out.symm, below_tr hb5 HB.out⟩
              | false =>
                rw [hf] at HF
                have HN := hid (HS2.out.trans hf)
                clear hf
                go_wp2_with (go_at_call 41; (with_reducible refine (HF.out _ (Below.refl _ _)).mono ?_); rintro e w5 ⟨rfl, hb5⟩)
                exact ⟨⟨.inr ⟨j + 1, by omega, by go_num, HF1.out, HN.out⟩, below_tr hb5 HB.out⟩, by simp [intOf]; omega⟩
            · have HN := hid (HNX.out (by simp [he]))
              have he1 : ((cAt l j).err == 0) = false := by simpa using he
              have he2 : ((cAt l j).err != 0) = true := by simpa using he
              clear HS HNX he hk hkd
              go_wp2
              exact ⟨⟨.inr ⟨j + 1, by omega, by go_num, HF1.out, HN.out⟩, HB.out⟩, by simp [intOf]; omega⟩
          · have HN := hid (HNX.out (by simp [hkd]))
            have he1 : ((cAt l j).kind == 1) = false := by simpa using hkd
            have he2 : ((cAt l j).kind != 1) = true := by simpa using hkd
            clear HS HNX hk hkd
            go_wp2
            exact ⟨⟨.inr ⟨j + 1, by omega, by go_num, HF1.out, HN.out⟩, HB.out⟩, by simp [intOf]; omega⟩
        · have HN := hid (HNX.out (by simp [hk]))
          have hse := strNe hk
          clear HS HNX hk
          go_wp2
          exact ⟨⟨.inr ⟨j + 1, by omega, by go_num, HF1.out, HN.out⟩, HB.out⟩, by simp [intOf]; omega⟩
      · have hje : j = l.length := by omega
        subst hje
        have HV : Hid (defB l key = false) := by unfold Hid defB; rw [HF1.out, HF2.out]; rfl
        go_wp2
        go_ret2
        exact ⟨_, ret_t2 HV.out.symm, HB.out⟩
/-- All names up to a place are there. -/
def defsTo (l : List Cl) (k : Nat) : Prop := ∀ j, j < k → defB l ((keysF l).getD j .empty) = true
open Classical in
noncomputable def isB (l : List Cl) : Bool := decide (defsTo l (keysF l).length)
theorem isB_iff {l : List Cl} : isB l = true ↔ defsTo l (keysF l).length := by unfold isB; simp
theorem isB_true {l : List Cl} (h : defsTo l (keysF l).length) : isB l = true := isB_iff.2 h
theorem isB_false {l : List Cl} {k : Nat} (hk : k < (keysF l).length) (h : defB l ((keysF l).getD k .empty) = false) : isB l = false := by
  cases hb : isB l with
  | false => rfl
  | true =>
    have := isB_iff.1 hb k hk
    rw [h] at this; cases this
theorem isB_lin {l : List Cl} (ho : HistOk l) (hm : ∀ i, i < l.length → (cAt l i).to ≤ maxI) : isB l = true ↔ Lin l := by
  have hrow : ∀ k, defB l k = true ↔ ∃ r, RowIs l k (sortFr l (idxOf l (isBef k))) (sortFr l (idxOf l (isAft k))) r := fun k => defB_iff.trans (define_row ho.at (parts_there l k))
  rw [isB_iff]
  constructor
  · intro h
    refine (lin_rows ho.at hm).2 fun i hi => ?_
    obtain ⟨j, hj, hjk⟩ := List.getElem_of_mem (keysF_mem.2 ⟨_, cAt_mem i hi, rfl⟩ : (cAt l i).key ∈ keysF l)
    have h1 := h j hj
    rw [List.getD_eq_getElem?_getD, List.getElem?_eq_getElem hj, Option.getD_some, hjk] at h1
    obtain ⟨r, hr⟩ := (hrow _).1 h1
    exact ⟨r, row_ok hr (parts_there l _) ho.at⟩
  · rintro ⟨o, hl⟩ j hj
    exact (hrow _).2 (legal_row hl ho.at (parts_there l _))
set_option maxRecDepth 20000 in
set_option maxHeartbeats 4000000 in
theorem ris_any (l : List Cl) (p : Option Addr) (c : Nat) (w : World) (hl : l.length ≤ 1000000) (hrow : Row w p (l.flatMap Cl.cells)) :
    Calls Try.prog 12 #[.slice p l.length c] w fun e w' => e = .returned (.bool (isB l)) ∧ Below w.heap.size w w' := by
  have HK := hid (rkeys_any l p c w hl hrow)
  have HD := hid (fun (key : ByteArray) (w1 : World) (hb : Below w.heap.size w w1) => define_any l p c key w1 hl (hrow.below hb))
  unfold DefTell at HD
  have hkl : (keysF l).length ≤ 1000000 := by
    have h1 : ∀ (q : List Cl) (acc : List ByteArray), (q.foldl keyStep acc).length ≤ acc.length + q.length := by
      intro q
      induction q with
      | nil => intro acc; simp
      | cons c q ih =>
        intro acc
        have h1 := ih (keyStep acc c)
        have h2 : (keyStep acc c).length ≤ acc.length + 1 := by unfold keyStep; split <;> simp
        rw [List.foldl_cons, List.length_cons]; omega
    have := h1 l []
    simp at this
    unfold keysF; omega
  have HT := hid (fun h => isB_true (l := l) h)
  have HF := hid (fun k hk h => isB_false (l := l) (k := k) hk h)
  clear hrow
  go_enter Try.func12, Try.ntmps12
  go_wp2_with (go_at_call 15; (with_reducible refine HK.out.mono ?_); rintro e w1 ⟨v1, rfl, ho1, hb1⟩; have HO1 := hid ho1; have HB1 := hid hb1; obtain ⟨p1, c1, rfl, -⟩ := own_shape ho1; have hz1 := hb1.size; clear ho1 hb1)
  go_loopw [4] (fun i wr => ∃ k : Nat, k ≤ (keysF l).length ∧ i = .int .i64 k ∧ defsTo l k ∧ Below w1.heap.size w1 wr) (fun i _ => (keysF l).length - (intOf i).toNat)
  case atStart => exact ⟨0, Nat.zero_le _, rfl, fun j hj => by omega, Below.refl _ _⟩
  case round =>
    obtain ⟨i, hi, rfl, hd, hb⟩ := hrel
    have HDT := hid hd
    have HB := hid hb
    have HBW : Hid (Below w.heap.size w wr) := HB1.out.trans (hb.mono hz1)
    clear hd hb
    by_cases hlt : i < (keysF l).length
    · have hr1 := (own_slice_row HO1.out).below HB.out
      obtain ⟨bo, oo, rfl, hbo, -⟩ := hr1.at (by simpa using (show 0 < (keysF l).length by omega))
      have c0 := str_at hr1 i hlt
      have HFI := hid (fun h => HF.out i hlt h)
      have HNX : Hid (defB l ((keysF l).getD i .empty) = true → defsTo l (i + 1)) := fun h j hj => by
        by_cases e : j = i
        · subst e; exact h
        · exact HDT.out j (by omega)
      clear hr1
      generalize (keysF l).getD i .empty = key at c0 HFI HNX
      have HDD := hid (HD.out key wr HBW.out)
      cases hdb : defB l key with
      | true =>
        rw [hdb] at HDD
        have HN2 := hid (HNX.out hdb)
        clear hdb
        go_wp2_with (go_at_call 25; (with_reducible refine HDD.out.mono ?_); rintro e w5 ⟨dd, rfl, hb5⟩)
        exact ⟨⟨i + 1, by omega, by go_num, HN2.out, HB.out.trans (hb5.mono HB.out.size)⟩, by simp [intOf]; omega⟩
      | false =>
        rw [hdb] at HDD
        have HV := hid (HFI.out hdb)
        clear hdb
        go_wp2_with (go_at_call 25; (with_reducible refine HDD.out.mono ?_); rintro e w5 ⟨dd, rfl, hb5⟩)
        go_ret
        exact ⟨ret_bool HV.out.symm, below_tr hb5 HBW.out⟩
    · have hie : i = (keysF l).length := by omega
      subst hie
      have HV := hid (HT.out HDT.out)
      go_wp2
      go_ret
      exact ⟨ret_bool HV.out.symm, HBW.out⟩
end Go.Proofs.Ytdkknnmgdghioaa
namespace Go.Proofs.Ytdkknnmgdghioaa
open Go.RowKit Go.ChangeShapes Go.WideShapes Go.ChangeAt

def Dr.cells (d : Dr) : List Value := [.int .u8 d.w, .int .u8 d.kind, .int .u8 d.key, .int .i64 d.value, .int .u8 d.wider, .bool d.op]
structure Dr.ok (d : Dr) : Prop where
  dr : DrOk d
  v : inI64 d.value
section
variable {H : Type} {enc : TypeId × Value → H} {W : World}
theorem fieldk {ty : TypeId} {off m : Nat} {cs l : List Value} (hc : Try.prog.cellsOf ty = m) (e : List.take (Try.prog.cellsOf ty) (List.drop off cs) = l) : (cs.drop off).take m = l := by rw [← hc]; exact e
theorem wf_i64 {n : Int} (h : (Lit.int .i64 n).wf = true) : inI64 n := by
  simp [Lit.wf, IntKind.min, IntKind.max, IntKind.bits, IntKind.signed] at h
  simp only [inI64]
  omega
theorem wf_u8 {n : Int} (h : (Lit.int .u8 n).wf = true) : 0 ≤ n ∧ n < 256 := by
  simp [Lit.wf, IntKind.min, IntKind.max, IntKind.bits, IntKind.signed] at h
  omega
theorem opens_str {P : Program} {t : TypeId} (ht : P.underlying t = some .string) : OpensAs enc P W t (fun s : ByteArray => [Value.string s]) (fun s => s.size ≤ 140737488351232) := fun n cs y h hlt => by
  obtain ⟨s, e, hy, _⟩ := DataW.trod_string ht h
  refine ⟨s, e, ?_⟩
  have := hlt s.data.toList.length (by rw [hy]; simp [DataW.weights])
  exact this
set_option maxRecDepth 20000 in
theorem opens_call : OpensAs enc Try.prog W 38 Cl.cells (Cl.ok) := fun n cs y h hlt => by
  obtain ⟨xs, k, rfl, rfl, hlen, hxl, hf⟩ := DataW.trod_struct Try.underlying38 h
  have hlen : cs.length = 8 := hlen.trans (by kernel_rfl)
  have hxl : xs.length = 8 := hxl
  have c0 : Try.prog.cellsOf 3 = 1 := by kernel_rfl
  have c1 : Try.prog.cellsOf 3 = 1 := by kernel_rfl
  have c2 : Try.prog.cellsOf 9 = 1 := by kernel_rfl
  have c3 : Try.prog.cellsOf 2 = 1 := by kernel_rfl
  have c4 : Try.prog.cellsOf 3 = 1 := by kernel_rfl
  have c5 : Try.prog.cellsOf 3 = 1 := by kernel_rfl
  have c6 : Try.prog.cellsOf 2 = 1 := by kernel_rfl
  have c7 : Try.prog.cellsOf 26 = 1 := by kernel_rfl
  obtain ⟨n0, e0, w0⟩ := (opens_int Try.underlying3) _ _ _ ((hf 0 _ rfl).trans (List.getElem?_eq_getElem (by omega))) (light_field Try.underlying38 hlt (j := 0) rfl (List.getElem?_eq_getElem (by omega)))
  obtain ⟨n1, e1, w1⟩ := (opens_int Try.underlying3) _ _ _ ((hf 1 _ rfl).trans (List.getElem?_eq_getElem (by omega))) (light_field Try.underlying38 hlt (j := 1) rfl (List.getElem?_eq_getElem (by omega)))
  obtain ⟨n2, e2, w2⟩ := (opens_str Try.underlying9) _ _ _ ((hf 2 _ rfl).trans (List.getElem?_eq_getElem (by omega))) (light_field Try.underlying38 hlt (j := 2) rfl (List.getElem?_eq_getElem (by omega)))
  obtain ⟨n3, e3, w3⟩ := (opens_int Try.underlying2) _ _ _ ((hf 3 _ rfl).trans (List.getElem?_eq_getElem (by omega))) (light_field Try.underlying38 hlt (j := 3) rfl (List.getElem?_eq_getElem (by omega)))
  obtain ⟨n4, e4, w4⟩ := (opens_int Try.underlying3) _ _ _ ((hf 4 _ rfl).trans (List.getElem?_eq_getElem (by omega))) (light_field Try.underlying38 hlt (j := 4) rfl (List.getElem?_eq_getElem (by omega)))
  obtain ⟨n5, e5, w5⟩ := (opens_int Try.underlying3) _ _ _ ((hf 5 _ rfl).trans (List.getElem?_eq_getElem (by omega))) (light_field Try.underlying38 hlt (j := 5) rfl (List.getElem?_eq_getElem (by omega)))
  obtain ⟨n6, e6, w6⟩ := (opens_int Try.underlying2) _ _ _ ((hf 6 _ rfl).trans (List.getElem?_eq_getElem (by omega))) (light_field Try.underlying38 hlt (j := 6) rfl (List.getElem?_eq_getElem (by omega)))
  obtain ⟨n7, e7, w7⟩ := (opens_int Try.underlying26) _ _ _ ((hf 7 _ rfl).trans (List.getElem?_eq_getElem (by omega))) (light_field Try.underlying38 hlt (j := 7) rfl (List.getElem?_eq_getElem (by omega)))
  have e0 := fieldk (off := 0) c0 e0
  have e1 := fieldk (off := 1) c1 e1
  have e2 := fieldk (off := 2) c2 e2
  have e3 := fieldk (off := 3) c3 e3
  have e4 := fieldk (off := 4) c4 e4
  have e5 := fieldk (off := 5) c5 e5
  have e6 := fieldk (off := 6) c6 e6
  have e7 := fieldk (off := 7) c7 e7
  match cs, hlen with
  | [v0, v1, v2, v3, v4, v5, v6, v7], _ =>
    simp at e0 e1 e2 e3 e4 e5 e6 e7
    subst e0 e1 e2 e3 e4 e5 e6 e7
    exact ⟨⟨n0, n1, n2, n3, n4, n5, n6, n7⟩, rfl, w2, wf_i64 w0, wf_i64 w1, wf_i64 w3, wf_i64 w4, wf_i64 w5, wf_i64 w6, wf_i64 w7⟩
set_option maxRecDepth 20000 in
theorem opens_do : OpensAs enc Try.prog W 58 Dr.cells (Dr.ok) := fun n cs y h hlt => by
  obtain ⟨xs, k, rfl, rfl, hlen, hxl, hf⟩ := DataW.trod_struct Try.underlying58 h
  have hlen : cs.length = 6 := hlen.trans (by kernel_rfl)
  have hxl : xs.length = 6 := hxl
  have c0 : Try.prog.cellsOf 5 = 1 := by kernel_rfl
  have c1 : Try.prog.cellsOf 5 = 1 := by kernel_rfl
  have c2 : Try.prog.cellsOf 5 = 1 := by kernel_rfl
  have c3 : Try.prog.cellsOf 2 = 1 := by kernel_rfl
  have c4 : Try.prog.cellsOf 5 = 1 := by kernel_rfl
  have c5 : Try.prog.cellsOf 4 = 1 := by kernel_rfl
  obtain ⟨n0, e0, w0⟩ := (opens_int Try.underlying5) _ _ _ ((hf 0 _ rfl).trans (List.getElem?_eq_getElem (by omega))) (light_field Try.underlying58 hlt (j := 0) rfl (List.getElem?_eq_getElem (by omega)))
  obtain ⟨n1, e1, w1⟩ := (opens_int Try.underlying5) _ _ _ ((hf 1 _ rfl).trans (List.getElem?_eq_getElem (by omega))) (light_field Try.underlying58 hlt (j := 1) rfl (List.getElem?_eq_getElem (by omega)))
  obtain ⟨n2, e2, w2⟩ := (opens_int Try.underlying5) _ _ _ ((hf 2 _ rfl).trans (List.getElem?_eq_getElem (by omega))) (light_field Try.underlying58 hlt (j := 2) rfl (List.getElem?_eq_getElem (by omega)))
  obtain ⟨n3, e3, w3⟩ := (opens_int Try.underlying2) _ _ _ ((hf 3 _ rfl).trans (List.getElem?_eq_getElem (by omega))) (light_field Try.underlying58 hlt (j := 3) rfl (List.getElem?_eq_getElem (by omega)))
  obtain ⟨n4, e4, w4⟩ := (opens_int Try.underlying5) _ _ _ ((hf 4 _ rfl).trans (List.getElem?_eq_getElem (by omega))) (light_field Try.underlying58 hlt (j := 4) rfl (List.getElem?_eq_getElem (by omega)))
  obtain ⟨n5, e5, w5⟩ := (opens_bool Try.underlying4) _ _ _ ((hf 5 _ rfl).trans (List.getElem?_eq_getElem (by omega))) (light_field Try.underlying58 hlt (j := 5) rfl (List.getElem?_eq_getElem (by omega)))
  have e0 := fieldk (off := 0) c0 e0
  have e1 := fieldk (off := 1) c1 e1
  have e2 := fieldk (off := 2) c2 e2
  have e3 := fieldk (off := 3) c3 e3
  have e4 := fieldk (off := 4) c4 e4
  have e5 := fieldk (off := 5) c5 e5
  match cs, hlen with
  | [v0, v1, v2, v3, v4, v5], _ =>
    simp at e0 e1 e2 e3 e4 e5
    subst e0 e1 e2 e3 e4 e5
    exact ⟨⟨n0, n1, n2, n3, n4, n5⟩, rfl, ⟨wf_u8 w0, wf_u8 w1, wf_u8 w2, wf_u8 w4⟩, wf_i64 w3⟩
end
end Go.Proofs.Ytdkknnmgdghioaa
namespace Go.Proofs.Ytdkknnmgdghioaa
open Go.RowKit

/-- A history that came in. -/
structure HsOk (w : World) (p : Option Addr) (c : Nat) (l : List Cl) : Prop where
  cap : l.length ≤ c
  nil : p = none → c = 0
  row : Row w p (l.flatMap Cl.cells)
  each : ∀ x ∈ l, x.ok
  len : l.length ≤ 1954687338211
theorem hsOk {w : World} {p : Option Addr} {c : Nat} {l : List Cl} (h : l.length ≤ c ∧ c ≤ maxLen ∧ (p = none → c = 0) ∧ Row w p (l.flatMap Cl.cells) ∧ (∀ x ∈ l, x.ok) ∧ c * Try.prog.bytesOf 38 ≤ 140737488351232) : HsOk w p c l := by
  obtain ⟨h1, h2, h3, h4, h5, h6⟩ := h
  refine ⟨h1, h3, h4, h5, ?_⟩
  have e : Try.prog.bytesOf 38 = 72 := by kernel_rfl
  rw [e] at h6
  omega
theorem HsOk.below {w w' : World} {p : Option Addr} {c : Nat} {l : List Cl} (h : HsOk w p c l) (hb : Below w.heap.size w w') : HsOk w' p c l := ⟨h.cap, h.nil, h.row.below hb, h.each, h.len⟩
theorem HsOk.max {w : World} {p : Option Addr} {c : Nat} {l : List Cl} (h : HsOk w p c l) : ∀ i, i < l.length → (cAt l i).to ≤ maxI := fun i hi => by
  have := (h.each _ (cAt_mem i hi)).to
  unfold maxI; exact this.2
theorem HsOk.few {w : World} {p : Option Addr} {c : Nat} {l : List Cl} (h : HsOk w p c l) : Calls Try.prog 9 #[.slice p l.length c] w (FewTell l w) := few_any l p c w h.len h.cap (fun x hx => (h.each x hx).key) h.row
/-- Find, what it tells in one of three ways. -/
inductive FindCase (l : List Cl) (w : World) (e : Ending) (w' : World) : Prop where
  | bad (p : Option Addr) (c : Nat) (hz : chkL l ≠ 0) (he : e = .returned (.tuple #[.slice p 0 c, .bool false, .int .i64 (chkL l)])) (hb : Below w.heap.size w w')
  | no (p : Option Addr) (c : Nat) (hz : chkL l = 0) (hn : linB l = false) (he : e = .returned (.tuple #[.slice p 0 c, .bool false, .int .i64 0])) (hb : Below w.heap.size w w')
  | yes (p : Option Addr) (c : Nat) (o : List Nat) (hz : chkL l = 0) (hn : linB l = true) (hl : Legal l o) (hr : Row w' p (o.map natV)) (he : e = .returned (.tuple #[.slice p o.length c, .bool true, .int .i64 0])) (hb : Below w.heap.size w w')
theorem linB_no {l : List Cl} (h : ¬ Lin l) : linB l = false := by
  cases hb : linB l with
  | false => rfl
  | true => exact absurd (linB_iff.1 hb) h
theorem find_case (l : List Cl) (p : Option Addr) (c : Nat) (w : World) (hl : l.length ≤ 1000000) (h : HsOk w p c l) : Calls Try.prog 10 #[.slice p l.length c] w (FindCase l w) := by
  refine (find_any l p c w hl h.cap h.nil h.row h.max).mono ?_
  rintro e w' ⟨v, o, is, rfl, hf, ho, hb⟩
  obtain ⟨q, d, rfl, hr⟩ := own_shape ho
  by_cases hz : chkL l = 0
  · cases is with
    | true =>
      rw [hz]
      exact .yes q d o hz (linB_iff.2 ((hf.lin hz).1 rfl)) (hf.leg rfl) hr rfl hb
    | false =>
      have := hf.no rfl
      subst this
      rw [hz]
      exact .no q d hz (linB_no fun hl => by have := (hf.lin hz).2 hl; cases this) rfl hb
  · have hi := hf.bad hz
    subst hi
    have := hf.no rfl
    subst this
    exact .bad q d hz rfl hb
set_option maxRecDepth 20000 in
theorem some_bad (l : List Cl) (p : Option Addr) (c : Nat) (w : World) (hl : l.length ≤ 1000000) (hc : l.length ≤ c) (hrow : Row w p (l.flatMap Cl.cells)) (hz : chkL l ≠ 0) :
    Calls Try.prog 14 #[.slice p l.length c] w fun e w' => e = .returned (.bool false) ∧ Below w.heap.size w w' := by
  have HCK := hid (rcheck_any l p c w hl hc hrow)
  unfold RChkTell at HCK
  clear hrow
  generalize chkL l = ch at *
  have h1 : (ch == 0) = false := by simpa using hz
  have h2 : decide (ch = 0) = false := by simpa using hz
  clear hz
  go_enter Try.func14, Try.ntmps14
  go_wp2_with (go_at_call 11; (with_reducible refine HCK.out.mono ?_); rintro e w1 ⟨rfl, hb1⟩)
  go_ret
  exact ⟨rfl, hb1⟩
theorem isB_linB {l : List Cl} (hz : chkL l = 0) (hm : ∀ i, i < l.length → (cAt l i).to ≤ maxI) : isB l = linB l := by
  rw [Bool.eq_iff_iff, isB_lin (chk_ok hz).2 hm, linB_iff]
set_option maxRecDepth 20000 in
set_option maxHeartbeats 4000000 in
theorem finds_walk (w : World) (p : Option Addr) (c : Nat) (l : List Cl) (hok : l.length ≤ c ∧ c ≤ maxLen ∧ (p = none → c = 0) ∧ Row w p (l.flatMap Cl.cells) ∧ (∀ x ∈ l, x.ok) ∧ c * Try.prog.bytesOf 38 ≤ 140737488351232) :
    Calls Try.prog 3 #[.slice p l.length c] w fun e w' => e = .returned (.bool true) ∧ Below w.heap.size w w' := by
  have HH := hid (hsOk hok)
  clear hok
  go_enter Try.func3, Try.ntmps3
  go_wp2_with (go_at_call 8; (with_reducible refine (live_any _).mono ?_); rintro e w1 ⟨rfl, hb1⟩; have HB1 := hid hb1; clear hb1)
  (with_reducible refine (HH.out.below HB1.out).few.mono ?_)
  rintro e w2 ⟨b, rfl, hfew, hb2⟩
  have HB2 := hid (HB1.out.trans (hb2.mono HB1.out.size))
  clear hb2
  cases b with
  | false =>
    go_wp2
    go_ret
    exact ⟨rfl, HB2.out⟩
  | true =>
    have hl := hfew rfl
    clear hfew
    go_wp2_with fail
    (with_reducible refine (find_case l p c w2 (by omega) (HH.out.below HB2.out)).mono ?_)
    rintro e w3 (⟨q, d, hz, rfl, hb3⟩ | ⟨q, d, hz, hn, rfl, hb3⟩ | ⟨q, d, o, hz, hn, hlg, hr, rfl, hb3⟩)
    · have HB3 := hid (HB2.out.trans (hb3.mono HB2.out.size))
      have HC := hid (rcheck_any l p c w3 (by omega) HH.out.cap (HH.out.row.below HB3.out))
      unfold RChkTell at HC
      generalize chkL l = ch at *
      have h1 : (ch == 0) = false := by simpa using hz
      have h2 : (ch != 0) = true := by simpa using hz
      clear hb3 hz
      go_wp2_with (go_at_call 11; (with_reducible refine HC.out.mono ?_); rintro e w4 ⟨rfl, hb4⟩)
      go_ret
      exact ⟨rfl, below_tr hb4 HB3.out⟩
    · have HB3 := hid (HB2.out.trans (hb3.mono HB2.out.size))
      have HC := hid (fun (w1 : World) (hb : Below w.heap.size w w1) => rcheck_any l p c w1 (by omega) HH.out.cap (HH.out.row.below hb))
      unfold RChkTell at HC
      have HI := hid (fun (w1 : World) (hb : Below w.heap.size w w1) => ris_any l p c w1 (by omega) (HH.out.row.below hb))
      rw [isB_linB hz HH.out.max, hn] at HI
      rw [hz] at HC
      clear hb3 hz hn
      go_wp2_with (first
        | (go_at_call 11; (with_reducible refine (HC.out _ HB3.out).mono ?_); rintro e w4 ⟨rfl, hb4⟩; have HB4 := hid (below_tr hb4 HB3.out); clear hb4)
        | (go_at_call 12; (with_reducible refine (HI.out _ HB4.out).mono ?_); rintro e w5 ⟨rfl, hb5⟩; have HB5 := hid (below_tr hb5 HB4.out); clear hb5))
      go_ret
      exact ⟨rfl, HB5.out⟩
    · have HB3 := hid (HB2.out.trans (hb3.mono HB2.out.size))
      have HC := hid (fun (w1 : World) (hb : Below w.heap.size w w1) => rcheck_any l p c w1 (by omega) HH.out.cap (HH.out.row.below hb))
      unfold RChkTell at HC
      have HI := hid (fun (w1 : World) (hb : Below w.heap.size w w1) => ris_any l p c w1 (by omega) (HH.out.row.below hb))
      have HL := hid (fun (w1 : World) (hb : Below w3.heap.size w3 w1) => rlegal_any l p c o q d w1 (by omega) HH.out.cap (HH.out.row.below (HB3.out.trans (hb.mono HB3.out.size))) (hr.below hb) hz hlg)
      rw [isB_linB hz HH.out.max, hn] at HI
      rw [hz] at HC
      clear hb3 hz hn hr hlg
      go_wp2_with (first
        | (go_at_call 11; (with_reducible refine (HC.out _ HB3.out).mono ?_); rintro e w4 ⟨rfl, hb4⟩; have HB4 := hid hb4; have HBW4 := hid (below_tr hb4 HB3.out); have hz4 := hb4.size; clear hb4)
        | (go_at_call 12; (with_reducible refine (HI.out _ HBW4.out).mono ?_); rintro e w5 ⟨rfl, hb5⟩; have HB5 := hid (HB4.out.trans (hb5.mono hz4)); have HBW5 := hid (below_tr hb5 HBW4.out); clear hb5)
        | (go_at_call 13; (with_reducible refine (HL.out _ HB5.out).mono ?_); rintro e w6 ⟨rfl, hb6⟩; have HBW6 := hid (below_tr hb6 HBW5.out); clear hb6))
      go_ret
      exact ⟨rfl, HBW6.out⟩
set_option maxRecDepth 20000 in
set_option maxHeartbeats 4000000 in
theorem tries_walk (w : World) (p : Option Addr) (c : Nat) (l : List Cl) (hok : l.length ≤ c ∧ c ≤ maxLen ∧ (p = none → c = 0) ∧ Row w p (l.flatMap Cl.cells) ∧ (∀ x ∈ l, x.ok) ∧ c * Try.prog.bytesOf 38 ≤ 140737488351232) :
    Calls Try.prog 4 #[.slice p l.length c] w fun e w' => e = .returned (.bool true) ∧ Below w.heap.size w w' := by
  have HH := hid (hsOk hok)
  clear hok
  have hln := HH.out.len
  by_cases h6 : 6 < l.length
  · have h6a : (6 : Int) < (l.length : Int) := by omega
    have h6b : decide ((6 : Int) < (l.length : Int)) = true := decide_eq_true h6a
    go_enter Try.func4, Try.ntmps4
    go_wp2_with (go_at_call 8; (with_reducible refine (live_any _).mono ?_); rintro e w1 ⟨rfl, hb1⟩; have HB1 := hid hb1; clear hb1)
    go_ret
    exact ⟨rfl, HB1.out⟩
  · have h6a : ¬ (6 : Int) < (l.length : Int) := by omega
    have h6b : decide ((6 : Int) < (l.length : Int)) = false := decide_eq_false h6a
    go_enter Try.func4, Try.ntmps4
    go_wp2_with (go_at_call 8; (with_reducible refine (live_any _).mono ?_); rintro e w1 ⟨rfl, hb1⟩; have HB1 := hid hb1; clear hb1)
    (with_reducible refine (HH.out.below HB1.out).few.mono ?_)
    rintro e w2 ⟨b, rfl, hfew, hb2⟩
    have HB2 := hid (HB1.out.trans (hb2.mono HB1.out.size))
    clear hb2
    cases b with
    | false =>
      go_wp2
      go_ret
      exact ⟨rfl, HB2.out⟩
    | true =>
      clear hfew
      go_wp2_with fail
      (with_reducible refine (find_case l p c w2 (by omega) (HH.out.below HB2.out)).mono ?_)
      have HC := hid (fun (w1 : World) (hb : Below w.heap.size w w1) => rcheck_any l p c w1 (by omega) HH.out.cap (HH.out.row.below hb))
      unfold RChkTell at HC
      rintro e w3 (⟨q, d, hz, rfl, hb3⟩ | ⟨q, d, hz, hn, rfl, hb3⟩ | ⟨q, d, o, hz, hn, hlg, hr, rfl, hb3⟩)
      · have HB3 := hid (HB2.out.trans (hb3.mono HB2.out.size))
        have HS := hid (fun (w1 : World) (hb : Below w.heap.size w w1) => some_bad l p c w1 (by omega) HH.out.cap (HH.out.row.below hb) hz)
        generalize chkL l = ch at *
        have hcc : (ch == ch) = true := by simp
        clear hb3 hz
        go_wp2_with (first
          | (go_at_call 11; (with_reducible refine (HC.out _ HB3.out).mono ?_); rintro e w4 ⟨rfl, hb4⟩; have HB4 := hid (below_tr hb4 HB3.out); clear hb4)
          | (go_at_call 14; (with_reducible refine (HS.out _ HB4.out).mono ?_); rintro e w5 ⟨rfl, hb5⟩; have HB5 := hid (below_tr hb5 HB4.out); clear hb5))
        go_ret
        exact ⟨rfl, HB5.out⟩
      · have HB3 := hid (HB2.out.trans (hb3.mono HB2.out.size))
        have HS := hid (fun (w1 : World) (hb : Below w.heap.size w w1) => some_any l p c w1 (by omega) HH.out.cap (HH.out.row.below hb) hz)
        rw [hn] at HS
        rw [hz] at HC
        clear hb3 hz hn
        go_wp2_with (first
          | (go_at_call 11; (with_reducible refine (HC.out _ HB3.out).mono ?_); rintro e w4 ⟨rfl, hb4⟩; have HB4 := hid (below_tr hb4 HB3.out); clear hb4)
          | (go_at_call 14; (with_reducible refine (HS.out _ HB4.out).mono ?_); rintro e w5 ⟨rfl, hb5⟩; have HB5 := hid (below_tr hb5 HB4.out); clear hb5))
        go_ret
        exact ⟨rfl, HB5.out⟩
      · have HB3 := hid (HB2.out.trans (hb3.mono HB2.out.size))
        have HS := hid (fun (w1 : World) (hb : Below w.heap.size w w1) => some_any l p c w1 (by omega) HH.out.cap (HH.out.row.below hb) hz)
        rw [hn] at HS
        rw [hz] at HC
        clear hb3 hz hn hlg hr
        go_wp2_with (first
          | (go_at_call 11; (with_reducible refine (HC.out _ HB3.out).mono ?_); rintro e w4 ⟨rfl, hb4⟩; have HB4 := hid (below_tr hb4 HB3.out); clear hb4)
          | (go_at_call 14; (with_reducible refine (HS.out _ HB4.out).mono ?_); rintro e w5 ⟨rfl, hb5⟩; have HB5 := hid (below_tr hb5 HB4.out); clear hb5))
        go_ret
        exact ⟨rfl, HB5.out⟩
end Go.Proofs.Ytdkknnmgdghioaa
