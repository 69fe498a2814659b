/-
  object.Check's walk.
  Sections: which may be: the document's walk.
-/
import Derived.Test.YteccpmmedpkddaaJN19
import Derived.Test.YteccpmmedpkddaaJN2
namespace Go.Proofs.Yteccpmmedpkddaa
open Go.RowKit

theorem alook_aset {κ β : Type} [DecidableEq κ] (m : List (κ × β)) (x : κ) (u : β) (y : κ) : alook (aset m x u) y = if y = x then some u else alook m y := by
  induction m with
  | nil => simp [aset, alook]
  | cons a l ih =>
    obtain ⟨k, v⟩ := a
    by_cases h : x = k
    · subst h
      by_cases hy : y = x <;> simp [aset, alook, hy]
    · by_cases hy : y = k
      · subst hy
        have : ¬ y = x := fun e => h e.symm
        simp [aset, alook, h, this]
      · simp [aset, alook, h, hy, ih]

theorem wpList_maplook_w {κ β : Type} [DecidableEq κ] {P : Program} {k : TypeId} {mk : κ → Value} {mv : β → Value} {w : World} {ops : Array Oper} {rest : List Oper} {o : Oper} {a : Act} {Q : Exit → Act → World → Prop} {t el : TypeId}
    (K : KeyOk P k mk) (ht : P.underlying t = some (.map k el)) (hg : Region.wanted o (yielded ops a.tmps) = true) (mo xo : Operand) (c : Bool) (hop : o.op = Op.lookup t mo xo c)
    (z : Value) (hz : (zeroValue el).run P w = .ok z w) (b : Nat) (m : List (κ × β)) (hm : a.eval mo = .map (some b)) (h : MapIs mk mv w b m) (x : κ) (hx : a.eval xo = mk x)
    (hK : wpList P ops Q rest (a.put o.dst (if c then .tuple #[((alook m x).map mv).getD z, .bool (alook m x).isSome] else ((alook m x).map mv).getD z)) w) : wpList P ops Q (o :: rest) a w := by
  rw [wpList, if_pos hg]
  refine .inl ?_
  unfold Oper.wp
  simp [execOp, hop, hm, hx, h.run_lookup K ht hz x c, Result.andThen]
  exact hK

theorem K9 : KeyOk Try.prog 9 Value.string := keyOk_string Try.underlying9
theorem zero4 (w : World) : (zeroValue 4).run Try.prog w = .ok (.bool false) w := by kernel_rfl

/-- What has been seen: the names of the first k. -/
def inT (l : List ByteArray) (k : Nat) (x : ByteArray) : Bool := (l.take k).any (fun y => decide (x = y))
def Seen (m : List (ByteArray × Bool)) (l : List ByteArray) (k : Nat) : Prop := ∀ x, alook m x = if inT l k x = true then some true else none
theorem Seen.nil (l : List ByteArray) : Seen [] l 0 := fun x => by simp [alook, inT]
theorem Seen.put {m : List (ByteArray × Bool)} {l : List ByteArray} {k : Nat} (h : Seen m l k) (hk : k < l.length) : Seen (aset m l[k] true) l (k + 1) := fun x => by
  rw [alook_aset, h x]
  unfold inT
  rw [take_succ l k hk, List.any_append]
  by_cases e : x = l[k]
  · simp [e]
  · simp only [if_neg e, List.any_cons, List.any_nil, decide_eq_false e, Bool.or_false]

def freshAt (l : List ByteArray) (k : Nat) : Bool := match l[k]? with | some x => !inT l k x | none => true
theorem freshAt_eq (l : List ByteArray) (k : Nat) (h : k < l.length) : freshAt l k = !inT l k l[k] := by unfold freshAt; rw [List.getElem?_eq_getElem h]
def secAt (o : Ob) (k : Nat) : Bool := (match o.secs[k]? with | some s => secP s o.syms.length | none => true) && freshAt (o.secs.map Sc.name) k
def symAt (o : Ob) (k : Nat) : Bool := (match o.syms[k]? with | some s => symP s o.secs | none => true) && freshAt (o.syms.map Sy.name) k
def allTo (f : Nat → Bool) (n : Nat) : Bool := (List.range n).all f
theorem allTo_true {f : Nat → Bool} {n : Nat} (h : ∀ j, j < n → f j = true) : allTo f n = true := by simpa [allTo] using h
theorem allTo_false {f : Nat → Bool} {n j : Nat} (hj : j < n) (h : f j = false) : allTo f n = false := by
  rw [Bool.eq_false_iff]; intro e; simp only [allTo, List.all_eq_true, List.mem_range] at e; rw [e j hj] at h; cases h
def fewO (o : Ob) : Bool := decide (o.secs.length ≤ 64) && decide (o.syms.length ≤ 4096)
def okO (o : Ob) : Bool := fewO o && allTo (secAt o) o.secs.length && allTo (symAt o) o.syms.length && sortP o.syms
def ckO (o : Ob) : Int := if okO o then 0 else 140

/-- Between two rounds: the object's own box, what has been seen. -/
structure ChkI (w : World) (box : Array Value) (b : Nat) (l : List ByteArray) (k : Nat) (wr : World) : Prop where
  box : wr.heap[w.heap.size]? = some (.cells box 25 (0, 0))
  map : ∃ m, MapIs Value.string Value.bool wr b m ∧ Seen m l k
  below : Below w.heap.size w wr
  ge : w.heap.size < b
theorem map_zero {mv : Bool → Value} : (((none : Option Bool).map mv).getD (.bool false)) = .bool false := rfl

set_option maxRecDepth 20000 in
set_option maxHeartbeats 8000000 in
theorem check_any (o : Ob) (w : World) (ho : o.ok w) :
    Calls Try.prog 14 #[.agg o.cells.toArray] w fun e w' => e = .returned (.int .i64 (ckO o)) ∧ Below w.heap.size w w' := by
  have hrow := ho.secs
  have hcap := ho.scap
  have heach := ho.each
  have hrowy := ho.syms
  have hcapy := ho.ycap
  have hnames := ho.names
  have HNO : Hid (okO o = false → ckO o = 140) := fun h => by simp [ckO, h]
  have HYES : Hid (okO o = true → ckO o = 0) := fun h => by simp [ckO, h]
  have HD : Hid (okO o = (fewO o && allTo (secAt o) o.secs.length && allTo (symAt o) o.syms.length && sortP o.syms)) := rfl
  have HA := hid (fun k (h : k < o.secs.length) => (show secAt o k = (secP o.secs[k] o.syms.length && freshAt (o.secs.map Sc.name) k) by simp only [secAt, List.getElem?_eq_getElem h]))
  have HY := hid (fun k (h : k < o.syms.length) => (show symAt o k = (symP o.syms[k] o.secs && freshAt (o.syms.map Sy.name) k) by simp only [symAt, List.getElem?_eq_getElem h]))
  have HFEW : Hid (fewO o = (decide (o.secs.length ≤ 64) && decide (o.syms.length ≤ 4096))) := rfl
  generalize ckO o = CK at HNO HYES
  generalize okO o = OK at HNO HYES HD
  generalize fewO o = FEW at HD HFEW
  obtain ⟨SA, hSA⟩ : ∃ f, f = secAt o := ⟨_, rfl⟩
  obtain ⟨YA, hYA⟩ : ∃ f, f = symAt o := ⟨_, rfl⟩
  rw [← hSA] at HD HA
  rw [← hYA] at HD HY
  clear hSA hYA ho
  obtain ⟨secs, sp, sc, syms, yp, yc⟩ := o
  dsimp only at hrow hcap heach hrowy hcapy hnames HD HA HY HFEW ⊢
  obtain ⟨hc1, hc2, _⟩ := hcap
  obtain ⟨hy1, hy2, _⟩ := hcapy
  show Calls Try.prog 14 #[.agg #[.slice sp secs.length sc, .slice yp syms.length yc]] w _
  have hbx : Below w.heap.size w (w.alloc (.cells #[.slice sp secs.length sc, .slice yp syms.length yc] 25)) := (Below.refl _ _).alloc (Nat.le_refl _) _
  by_cases h1 : secs.length ≤ 64
  case neg =>
    have h1' : 64 < secs.length := by omega
    have H1 := hid (decide_eq_false h1)
    go_enter Try.func14, Try.ntmps14
    go_wp2
    go_ret
    exact ⟨ret_int (HNO.out (by rw [HD.out, HFEW.out, H1.out]; simp)).symm, hbx⟩
  by_cases h2 : syms.length ≤ 4096
  case neg =>
    have h2' : 4096 < syms.length := by omega
    have H2 := hid (decide_eq_false h2)
    go_enter Try.func14, Try.ntmps14
    go_wp2
    go_ret
    exact ⟨ret_int (HNO.out (by rw [HD.out, HFEW.out, H2.out]; simp)).symm, hbx⟩
  have hmm := @run_makeMap Try.prog
  have HF : Hid (FEW = true) := by rw [Hid, HFEW.out, decide_eq_true h1, decide_eq_true h2]; rfl
  go_enter Try.func14, Try.ntmps14
  go_wp2
  have h0 : ChkI w #[.slice sp secs.length sc, .slice yp syms.length yc] (w.heap.size + 1) (secs.map Sc.name) 0 ((w.alloc (.cells #[.slice sp secs.length sc, .slice yp syms.length yc] 25)).alloc (.map #[] 0)) := by
    refine ⟨(Below.heap_alloc _ _ _ (by simp)).trans (heap_alloc_new w _), ⟨[], ?_, Seen.nil _⟩, hbx.alloc (by simp) _, by omega⟩
    have := MapIs.made Value.string Value.bool (w.alloc (.cells #[.slice sp secs.length sc, .slice yp syms.length yc] 25))
    rwa [World.size_alloc] at this
  go_loopw [23] (fun i wr => ∃ k : Nat, k ≤ secs.length ∧ i = .int .i64 k ∧ (∀ j, j < k → SA j = true) ∧ ChkI w #[.slice sp secs.length sc, .slice yp syms.length yc] (w.heap.size + 1) (secs.map Sc.name) k wr) (fun i _ => secs.length - (intOf i).toNat)
  case atStart => exact ⟨0, Nat.zero_le _, rfl, fun j hj => by omega, h0⟩
  case round =>
    clear h0
    obtain ⟨k, hk, rfl, hok, HI⟩ := hrel
    have HOK := hid hok
    clear hok
    have hb := HI.below
    have hsz := hb.size
    obtain ⟨m, hmap, hseen⟩ := HI.map
    have hbl := hmap.lt
    have hblk := HI.box
    have d0 := cell_of_row wr w.heap.size 0 _ _ _ hblk
    have d1 := cell_of_row wr w.heap.size 1 _ _ _ hblk
    have dl := (Array.getElem?_eq_some_iff.1 hblk).1
    simp only [List.getElem?_toArray, List.getElem?_cons_zero, List.getElem?_cons_succ] at d0 d1
    have HBK := hid hblk
    have HM := hid hmap
    have HSN := hid hseen
    clear hblk HI hmap hseen
    by_cases hlt : k < secs.length
    · obtain ⟨b, off, rfl, hbs, hzz⟩ := hrow.at (by have := flat_len Sc.cells 6 (fun _ => rfl) secs; omega)
      clear hzz
      have hs := heach secs[k] (List.getElem_mem _)
      have HSEC := hid (fun w1 (hbb : Below wr.heap.size wr w1) => section_any secs[k] syms.length w1 (hs.below (below_more hbb hb (Nat.le_refl _))) (by omega))
      obtain ⟨c0, c1, c2, c3, c4, c5⟩ := sc_cells (hrow.below hb) k hlt
      have HAK : Hid (SA k = (secP secs[k] syms.length && !inT (secs.map Sc.name) k (secs[k]).name)) := by
        rw [Hid, HA.out k hlt, freshAt_eq _ _ (by simpa using hlt)]; simp
      have HPUT : Hid (∀ m, Seen m (secs.map Sc.name) k → Seen (aset m (secs[k]).name true) (secs.map Sc.name) (k + 1)) := fun m h => by
        have := h.put (by simpa using hlt); simpa using this
      have hn1 := hs.name
      generalize secs[k] = s at c0 c1 c2 c3 c4 c5 HSEC HAK HPUT hn1
      clear hs
      obtain ⟨nm, kd, al, sz, da, dp, dc, rl, rp, rc⟩ := s
      unfold Sc.cells at HSEC
      dsimp only at c0 c1 c2 c3 c4 c5 HSEC HAK HPUT hn1
      generalize secP _ _ = sb at HSEC HAK
      have hlk : alook m nm = if inT (secs.map Sc.name) k nm = true then some true else none := HSN.out nm
      generalize inT (secs.map Sc.name) k nm = tb at hlk HAK
      have HLK := hid hlk
      clear hlk
      cases sb with
      | false =>
        have HN2 : Hid (CK = 140) := HNO.out (by rw [HD.out, allTo_false hlt (by rw [HAK.out]; rfl)]; simp)
        go_wp2_with (go_at_call 36; refine (HSEC.out _ ((Below.refl _ _).alloc (Nat.le_refl _) _)).mono ?_; rintro e w1 ⟨rfl, hb1⟩)
        go_ret
        exact ⟨ret_int HN2.out.symm, below_more hb1 (hb.alloc hsz _) (by simp <;> omega)⟩
      | true =>
        cases tb with
        | true =>
          have HN2 : Hid (CK = 140) := HNO.out (by rw [HD.out, allTo_false hlt (by rw [HAK.out]; rfl)]; simp)
          go_wp2_with (first
            | (go_at_call 36; refine (HSEC.out _ ((Below.refl _ _).alloc (Nat.le_refl _) _)).mono ?_; rintro e w1 ⟨rfl, hb1⟩; have hm1 := (HM.out.alloc (.cells #[.string nm, .int .i64 kd, .int .i64 al, .int .i64 sz, .slice dp da.length dc, .slice rp rl.length rc] 40)).below hb1 (by simp; omega); have hcx := (hb1.cell (p := ⟨wr.heap.size, 0, none⟩) (by simp)).trans (cell_of_row _ _ 0 _ _ _ (heap_alloc_new wr (.cells #[.string nm, .int .i64 kd, .int .i64 al, .int .i64 sz, .slice dp da.length dc, .slice rp rl.length rc] 40 (0, 0)))); simp only [List.getElem?_toArray, List.getElem?_cons_zero] at hcx)
            | ((with_reducible show wpList _ _ _ (⟨some 37, _, _, _, _, _⟩ :: _) _ _); go_loud (refine wpList_maplook_w K9 Try.underlying62 (by rfl) _ _ false rfl (.bool false) (zero4 _) _ _ rfl hm1 nm rfl ?_); simp only [HLK.out, if_true, Option.map_some, Option.getD_some, Bool.false_eq_true, if_false]))
          go_ret
          exact ⟨ret_int HN2.out.symm, below_more hb1 (hb.alloc hsz _) (by simp <;> omega)⟩
        | false =>
          have hbz1 := hb.alloc hsz (.cells #[.string nm, .int .i64 kd, .int .i64 al, .int .i64 sz, .slice dp da.length dc, .slice rp rl.length rc] 40)
          go_wp2_with (first
            | (go_at_call 36; refine (HSEC.out _ ((Below.refl _ _).alloc (Nat.le_refl _) _)).mono ?_; rintro e w1 ⟨rfl, hb1⟩; have hm1 := (HM.out.alloc (.cells #[.string nm, .int .i64 kd, .int .i64 al, .int .i64 sz, .slice dp da.length dc, .slice rp rl.length rc] 40)).below hb1 (by simp; omega); have hcx := (hb1.cell (p := ⟨wr.heap.size, 0, none⟩) (by simp)).trans (cell_of_row _ _ 0 _ _ _ (heap_alloc_new wr (.cells #[.string nm, .int .i64 kd, .int .i64 al, .int .i64 sz, .slice dp da.length dc, .slice rp rl.length rc] 40 (0, 0)))); simp only [List.getElem?_toArray, List.getElem?_cons_zero] at hcx)
            | ((with_reducible show wpList _ _ _ (⟨some 37, _, _, _, _, _⟩ :: _) _ _); go_loud (refine wpList_maplook_w K9 Try.underlying62 (by rfl) _ _ false rfl (.bool false) (zero4 _) _ _ rfl hm1 nm rfl ?_); simp only [HLK.out, Bool.false_eq_true, if_false, Option.map_none, Option.getD_none])
            | ((with_reducible show wpList _ _ _ (⟨none, .mapUpdate _ _ _ _, _, _, _, _⟩ :: _) _ _); go_loud (refine wpList_mapset K9 Try.underlying62 rfl _ _ _ (.inl rfl) _ _ rfl hm1 nm rfl true rfl ?_); intro w2 hm2 hg2))
          have hz1 := hb1.size
          simp only [World.size_alloc] at hz1
          have hb2 : Below w.heap.size w w2 := (below_more hb1 hbz1 (by simp <;> omega)).grown hg2 (by omega) (fun r e => by cases e; omega)
          have hk2 := (hg2.block w.heap.size (by omega) (by simp)).trans ((hb1.block _ (by simp; omega)).trans ((Below.heap_alloc _ _ _ (by omega)).trans HBK.out))
          go_roundw
          case rel => exact ⟨k + 1, by omega, by go_num, fun j hj => by
            by_cases e : j = k
            · subst e; rw [HAK.out]; rfl
            · exact HOK.out j (by omega), ⟨hk2, ⟨_, hm2, HPUT.out _ HSN.out⟩, hb2, by omega⟩⟩
          case measure => simp [intOf]; omega
    · obtain rfl : k = secs.length := by omega
      have HSA : Hid (allTo SA secs.length = true) := allTo_true HOK.out
      clear HA heach
      have hwz := hb.size
      obtain ⟨mb, hmb⟩ : ∃ mb, mb = wr.heap.size := ⟨_, rfl⟩
      have h02 : ChkI w #[.slice sp secs.length sc, .slice yp syms.length yc] wr.heap.size (syms.map Sy.name) 0 (wr.alloc (.map #[] 0)) :=
        ⟨(Below.heap_alloc _ _ _ dl).trans HBK.out, ⟨[], MapIs.made Value.string Value.bool wr, Seen.nil _⟩, hb.alloc hsz _, by omega⟩
      rw [← hmb] at h02
      have HOK0 := HOK
      clear HOK HM HSN HBK
      go_wp2
      rw [← hmb]
      obtain ⟨wo, rfl⟩ : ∃ wo : World, wo = wr := ⟨_, rfl⟩
      clear hmb d0 d1 dl hbl hb hsz
      go_loopw [47] (fun i wr => ∃ k : Nat, k ≤ syms.length ∧ i = .int .i64 k ∧ (∀ j, j < k → YA j = true) ∧ ChkI w #[.slice sp secs.length sc, .slice yp syms.length yc] mb (syms.map Sy.name) k wr) (fun i _ => syms.length - (intOf i).toNat)
      case atStart => exact ⟨0, Nat.zero_le _, rfl, fun j hj => by omega, h02⟩
      case round =>
        clear h02
        obtain ⟨k, hk, rfl, hok, HI⟩ := hrel
        have HOK := hid hok
        clear hok
        have hb := HI.below
        have hsz := hb.size
        obtain ⟨m, hmap, hseen⟩ := HI.map
        have hbl := hmap.lt
        have hblk := HI.box
        have d0 := cell_of_row wr w.heap.size 0 _ _ _ hblk
        have d1 := cell_of_row wr w.heap.size 1 _ _ _ hblk
        have dl := (Array.getElem?_eq_some_iff.1 hblk).1
        simp only [List.getElem?_toArray, List.getElem?_cons_zero, List.getElem?_cons_succ] at d0 d1
        have HBK := hid hblk
        have HM := hid hmap
        have HSN := hid hseen
        have hgb := HI.ge
        clear hblk HI hmap hseen
        by_cases hlt : k < syms.length
        · obtain ⟨b, off, rfl, hbs, hzz⟩ := hrowy.at (by have := flat_len Sy.cells 4 (fun _ => rfl) syms; omega)
          clear hzz
          have hs := hnames syms[k] (List.getElem_mem _)
          have HSEC := hid (fun w1 (hbb : Below wr.heap.size wr w1) => symbol_any syms[k] sp sc secs w1 hs (hrow.below (below_more hbb hb (Nat.le_refl _))) (by omega))
          obtain ⟨c0, c1, c2, c3⟩ := sy_cells (hrowy.below hb) k hlt
          have HAK : Hid (YA k = (symP syms[k] secs && !inT (syms.map Sy.name) k (syms[k]).name)) := by
            rw [Hid, HY.out k hlt, freshAt_eq _ _ (by simpa using hlt)]; simp
          have HPUT : Hid (∀ m, Seen m (syms.map Sy.name) k → Seen (aset m (syms[k]).name true) (syms.map Sy.name) (k + 1)) := fun m h => by
            have := h.put (by simpa using hlt); simpa using this
          have hn1 := hs.1
          generalize syms[k] = s at c0 c1 c2 c3 HSEC HAK HPUT hn1
          clear hs
          obtain ⟨nm, kd, al, sz⟩ := s
          unfold Sy.cells at HSEC
          dsimp only at c0 c1 c2 c3 HSEC HAK HPUT hn1
          generalize symP _ _ = sb at HSEC HAK
          have hlk : alook m nm = if inT (syms.map Sy.name) k nm = true then some true else none := HSN.out nm
          generalize inT (syms.map Sy.name) k nm = tb at hlk HAK
          have HLK := hid hlk
          clear hlk
          cases sb with
          | false =>
            have HN2 : Hid (CK = 140) := HNO.out (by rw [HD.out, HSA.out, allTo_false hlt (by rw [HAK.out]; rfl)]; simp)
            go_wp2_with (go_at_call 37; refine (HSEC.out _ ((Below.refl _ _).alloc (Nat.le_refl _) _)).mono ?_; rintro e w1 ⟨rfl, hb1⟩)
            go_ret
            exact ⟨ret_int HN2.out.symm, below_more hb1 (hb.alloc hsz _) (by simp <;> omega)⟩
          | true =>
            cases tb with
            | true =>
              have HN2 : Hid (CK = 140) := HNO.out (by rw [HD.out, HSA.out, allTo_false hlt (by rw [HAK.out]; rfl)]; simp)
              go_wp2_with (first
                | (go_at_call 37; refine (HSEC.out _ ((Below.refl _ _).alloc (Nat.le_refl _) _)).mono ?_; rintro e w1 ⟨rfl, hb1⟩; have hm1 := (HM.out.alloc (.cells #[.string nm, .int .i64 kd, .int .i64 al, .bool sz] 36)).below hb1 (by simp; omega); have hcx := (hb1.cell (p := ⟨wr.heap.size, 0, none⟩) (by simp)).trans (cell_of_row _ _ 0 _ _ _ (heap_alloc_new wr (.cells #[.string nm, .int .i64 kd, .int .i64 al, .bool sz] 36 (0, 0)))); simp only [List.getElem?_toArray, List.getElem?_cons_zero] at hcx)
                | ((with_reducible show wpList _ _ _ (⟨some 60, _, _, _, _, _⟩ :: _) _ _); go_loud (refine wpList_maplook_w K9 Try.underlying62 (by rfl) _ _ false rfl (.bool false) (zero4 _) _ _ rfl hm1 nm rfl ?_); simp only [HLK.out, if_true, Option.map_some, Option.getD_some, Bool.false_eq_true, if_false]))
              go_ret
              exact ⟨ret_int HN2.out.symm, below_more hb1 (hb.alloc hsz _) (by simp <;> omega)⟩
            | false =>
              have hbz1 := hb.alloc hsz (.cells #[.string nm, .int .i64 kd, .int .i64 al, .bool sz] 36)
              go_wp2_with (first
                | (go_at_call 37; refine (HSEC.out _ ((Below.refl _ _).alloc (Nat.le_refl _) _)).mono ?_; rintro e w1 ⟨rfl, hb1⟩; have hm1 := (HM.out.alloc (.cells #[.string nm, .int .i64 kd, .int .i64 al, .bool sz] 36)).below hb1 (by simp; omega); have hcx := (hb1.cell (p := ⟨wr.heap.size, 0, none⟩) (by simp)).trans (cell_of_row _ _ 0 _ _ _ (heap_alloc_new wr (.cells #[.string nm, .int .i64 kd, .int .i64 al, .bool sz] 36 (0, 0)))); simp only [List.getElem?_toArray, List.getElem?_cons_zero] at hcx)
                | ((with_reducible show wpList _ _ _ (⟨some 60, _, _, _, _, _⟩ :: _) _ _); go_loud (refine wpList_maplook_w K9 Try.underlying62 (by rfl) _ _ false rfl (.bool false) (zero4 _) _ _ rfl hm1 nm rfl ?_); simp only [HLK.out, Bool.false_eq_true, if_false, Option.map_none, Option.getD_none])
                | ((with_reducible show wpList _ _ _ (⟨none, .mapUpdate _ _ _ _, _, _, _, _⟩ :: _) _ _); go_loud (refine wpList_mapset K9 Try.underlying62 rfl _ _ _ (.inl rfl) _ _ rfl hm1 nm rfl true rfl ?_); intro w2 hm2 hg2))
              have hz1 := hb1.size
              simp only [World.size_alloc] at hz1
              have hb2 : Below w.heap.size w w2 := (below_more hb1 hbz1 (by simp <;> omega)).grown hg2 (by omega) (fun r e => by cases e; omega)
              have hk2 := (hg2.block w.heap.size (by omega) (by simp; omega)).trans ((hb1.block _ (by simp; omega)).trans ((Below.heap_alloc _ _ _ (by omega)).trans HBK.out))
              go_roundw
              case rel => exact ⟨k + 1, by omega, by go_num, fun j hj => by
                by_cases e : j = k
                · subst e; rw [HAK.out]; rfl
                · exact HOK.out j (by omega), ⟨hk2, ⟨_, hm2, HPUT.out _ HSN.out⟩, hb2, by omega⟩⟩
              case measure => simp [intOf]; omega
        · obtain rfl : k = syms.length := by omega
          have HYA : Hid (allTo YA syms.length = true) := allTo_true HOK.out
          have HSO := hid (fun w1 (hbb : Below wr.heap.size wr w1) => sorted_any yp yc syms w1 (hrowy.below (below_more hbb hb (Nat.le_refl _))) (by omega))
          have HFIN : Hid (OK = sortP syms) := by rw [Hid, HD.out, HF.out, HSA.out, HYA.out]; simp
          generalize sortP syms = SP at HSO HFIN
          clear HM HSN HBK HOK HOK0 HY hnames
          cases SP with
          | true =>
            have HC := hid (HYES.out HFIN.out)
            go_wp2_with (go_at_call 38; refine (HSO.out _ (Below.refl _ _)).mono ?_; rintro e w1 ⟨rfl, hb1⟩)
            go_ret
            exact ⟨ret_int HC.out.symm, below_more hb1 hb (Nat.le_refl _)⟩
          | false =>
            have HC := hid (HNO.out HFIN.out)
            go_wp2_with (go_at_call 38; refine (HSO.out _ (Below.refl _ _)).mono ?_; rintro e w1 ⟨rfl, hb1⟩)
            go_ret
            exact ⟨ret_int HC.out.symm, below_more hb1 hb (Nat.le_refl _)⟩
end Go.Proofs.Yteccpmmedpkddaa
namespace Go.Proofs.Yteccpmmedpkddaa
open Go.RowKit

theorem secTail_ref (s : Sc) (n : Int) (h0 : 0 ≤ s.size) : secTail s n = (decide ((s.data.length : Int) = if s.kind = 4 then 0 else s.size) && rrelP s.kind s.size n s.rel) := by
  unfold secTail rrelP
  by_cases h : s.kind = 4
  · simp only [h, if_true, true_and]
    by_cases hl : 0 < s.rel.length
    · have : ¬ s.rel.length = 0 := by omega
      simp [hl, this]
    · have hn : s.rel = [] := List.eq_nil_of_length_eq_zero (by omega)
      rw [Bool.eq_iff_iff]
      simp [hn, relP, relN]
  · simp [h]

set_option maxRecDepth 20000 in
set_option maxHeartbeats 8000000 in
theorem rsection_any (s : Sc) (n : Int) (w : World) (hs : s.ok w) (hn : 0 ≤ n ∧ n ≤ 4398046510976) :
    Calls Try.prog 40 #[.agg s.cells.toArray, .int .i64 n] w fun e w' => e = .returned (.bool (secP s n)) ∧ Below w.heap.size w w' := by
  have HR := hid (fun w1 (hb : Below w.heap.size w w1) h0 h1 => rrelocs_any s n w1 (hs.below hb) h0 h1 hn)
  have HN := hid (fun w1 => rname_any s.name w1 hs.name)
  have HK := hid (fun w1 => rkind_any s.name w1)
  have HA := hid (fun w1 => ralign_any s.align w1)
  have hk := hs.kind
  have ha := hs.align
  have hz := hs.size
  have HT := hid (secTail_ref s n)
  have HP : Hid (secP s n = (nameP s.name && decide (s.kind = kindP s.name) && alP s.align && decide (0 ≤ s.size) && decide (s.size ≤ 1048576) && secTail s n)) := rfl
  clear hs
  obtain ⟨name, kind, align, size, data, dp, dc, rel, rp, rc⟩ := s
  unfold Sc.cells at HR
  dsimp only at HR HN HK HA HT hk ha hz HP ⊢
  generalize nameP name = nb at HN HP
  generalize kindP name = kb at HK HP
  generalize alP align = al at HA HP
  generalize rrelP kind size n rel = rb at HR HT
  show Calls Try.prog 40 #[.agg #[.string name, .int .i64 kind, .int .i64 align, .int .i64 size, .slice dp data.length dc, .slice rp rel.length rc], .int .i64 n] w _
  have hbx : Below w.heap.size w (w.alloc (.cells #[.string name, .int .i64 kind, .int .i64 align, .int .i64 size, .slice dp data.length dc, .slice rp rel.length rc] 40)) := (Below.refl _ _).alloc (Nat.le_refl _) _
  have hbx0 := hbx
  obtain ⟨wd, hwd⟩ : ∃ wd, wd = w.alloc (.cells #[.string name, .int .i64 kind, .int .i64 align, .int .i64 size, .slice dp data.length dc, .slice rp rel.length rc] 40) := ⟨_, rfl⟩
  have hblk : wd.heap[w.heap.size]? = some (.cells #[.string name, .int .i64 kind, .int .i64 align, .int .i64 size, .slice dp data.length dc, .slice rp rel.length rc] 40 (0, 0)) := by rw [hwd]; exact heap_alloc_new w _
  have hall : ∀ w', Below wd.heap.size wd w' → w'.heap[w.heap.size]? = some (.cells #[.string name, .int .i64 kind, .int .i64 align, .int .i64 size, .slice dp data.length dc, .slice rp rel.length rc] 40 (0, 0)) := fun w' hb => (hb.block _ (Array.getElem?_eq_some_iff.1 hblk).1).trans hblk
  have g0 : ∀ w', Below wd.heap.size wd w' → w'.cell? ⟨w.heap.size, 0, none⟩ = some (.string name) := fun w' hb => cell_of_row w' _ 0 _ _ _ (hall w' hb)
  have g1 : ∀ w', Below wd.heap.size wd w' → w'.cell? ⟨w.heap.size, 1, none⟩ = some (.int .i64 kind) := fun w' hb => cell_of_row w' _ 1 _ _ _ (hall w' hb)
  have g2 : ∀ w', Below wd.heap.size wd w' → w'.cell? ⟨w.heap.size, 2, none⟩ = some (.int .i64 align) := fun w' hb => cell_of_row w' _ 2 _ _ _ (hall w' hb)
  have g3 : ∀ w', Below wd.heap.size wd w' → w'.cell? ⟨w.heap.size, 3, none⟩ = some (.int .i64 size) := fun w' hb => cell_of_row w' _ 3 _ _ _ (hall w' hb)
  have HALL := hid hall
  have HWD := hid hwd
  clear hwd hall hblk
  cases nb with
  | false =>
    go_enter Try.func40, Try.ntmps40
    go_upto_region 1 with (fail)
    go_quiet (first | (go_at_call 66; exact quiet_sym (HN.out _)) | (go_at_call 10; exact quiet_sym (HK.out _)) | (go_at_call 67; exact quiet_sym (HA.out _)))
    go_wp2
    go_ret
    exact ⟨ret_bool (by rw [HP.out]; simp), below_drewN hbx0 _⟩
  | true =>
    by_cases hkk : kind = kb
    case neg =>
      have hkx : (kind != kb) = true := by simpa using hkk
      have HKK := hid (decide_eq_false hkk)
      clear hkk
      go_enter Try.func40, Try.ntmps40
      go_upto_region 1 with (fail)
      go_quiet (first | (go_at_call 66; exact quiet_sym (HN.out _)) | (go_at_call 10; exact quiet_sym (HK.out _)) | (go_at_call 67; exact quiet_sym (HA.out _)))
      go_wp2
      go_ret
      exact ⟨ret_bool (by rw [HP.out, HKK.out]; simp), below_drewN hbx0 _⟩
    have hkx : (kind != kb) = false := by simpa using hkk
    have HKK := hid (decide_eq_true hkk)
    clear hkk
    cases al with
    | false =>
      go_enter Try.func40, Try.ntmps40
      go_upto_region 1 with (fail)
      go_quiet (first | (go_at_call 66; exact quiet_sym (HN.out _)) | (go_at_call 10; exact quiet_sym (HK.out _)) | (go_at_call 67; exact quiet_sym (HA.out _)))
      go_wp2
      go_ret
      exact ⟨ret_bool (by rw [HP.out]; simp), below_drewN hbx0 _⟩
    | true =>
      by_cases h3 : 0 ≤ size
      case neg =>
        have h3' : size < 0 := by omega
        have hd3 := decide_eq_false h3
        have H3 := hid hd3
        clear h3
        go_enter Try.func40, Try.ntmps40
        go_upto_region 1 with (fail)
        go_quiet (first | (go_at_call 66; exact quiet_sym (HN.out _)) | (go_at_call 10; exact quiet_sym (HK.out _)) | (go_at_call 67; exact quiet_sym (HA.out _)))
        go_wp2
        go_ret
        exact ⟨ret_bool (by rw [HP.out, H3.out]; simp), below_drewN hbx0 _⟩
      have H3 := hid (decide_eq_true h3)
      have hg3 : decide (size < 0) = false := decide_eq_false (by omega)
      by_cases h4 : size ≤ 1048576
      case neg =>
        have h4' : 1048576 < size := by omega
        have hd4 := decide_eq_false h4
        have H4 := hid hd4
        clear h4
        go_enter Try.func40, Try.ntmps40
        go_upto_region 1 with (fail)
        go_quiet (first | (go_at_call 66; exact quiet_sym (HN.out _)) | (go_at_call 10; exact quiet_sym (HK.out _)) | (go_at_call 67; exact quiet_sym (HA.out _)))
        go_wp2
        go_ret
        exact ⟨ret_bool (by rw [HP.out, H4.out]; simp), below_drewN hbx0 _⟩
      have H4 := hid (decide_eq_true h4)
      have hg4 : decide (1048576 < size) = false := decide_eq_false (by omega)
      have HT2 := hid (HT.out h3)
      go_enter Try.func40, Try.ntmps40
      go_upto_region 1 with (fail)
      rw [← HWD.out] at hbx ⊢
      go_cut [33] (fun v wx => v = .bool false ∧ Below wd.heap.size wd wx)
      case first =>
        go_region_held3 (fun w' => Below wd.heap.size wd w') (first | exact (Below.refl _ _).drew | assumption) (first | (go_at_call 66; with_reducible refine (HN.out _).mono ?_; rintro e w' ⟨rfl, rfl⟩) | (go_at_call 10; with_reducible refine (HK.out _).mono ?_; rintro e w' ⟨rfl, rfl⟩) | (go_at_call 67; with_reducible refine (HA.out _).mono ?_; rintro e w' ⟨rfl, rfl⟩))
        all_goals (go_wp2_with fail; go_meet)
        all_goals exact ⟨rfl, by assumption⟩
      case rest =>
        obtain ⟨rfl, hbc⟩ := hcut
        have hblk := HALL.out _ hbc
        have hbwx := below_more hbc hbx (Nat.le_refl _)
        have HRX := hid (HR.out _ hbwx)
        have d0 := cell_of_row wc w.heap.size 0 _ _ _ hblk
        have d1 := cell_of_row wc w.heap.size 1 _ _ _ hblk
        have d2 := cell_of_row wc w.heap.size 2 _ _ _ hblk
        have d3 := cell_of_row wc w.heap.size 3 _ _ _ hblk
        have d4 := cell_of_row wc w.heap.size 4 _ _ _ hblk
        have d5 := cell_of_row wc w.heap.size 5 _ _ _ hblk
        have hfz := frozen_of_row wc w.heap.size 0 _ _ hblk
        simp only [List.getElem?_toArray, List.getElem?_cons_zero, List.getElem?_cons_succ] at d0 d1 d2 d3 d4 d5
        clear g0 g1 g2 g3 hbc hbx HR hblk
        clear hg3 hg4 hkx
        by_cases h5 : kind = 4
        case pos =>
          have h5' : (kind == 4) = true := by simpa using h5
          have H5 := hid h5
          clear h5
          have HT3 : Hid (secP ⟨name, kind, align, size, data, dp, dc, rel, rp, rc⟩ n = (decide (data = []) && rb)) := by
            rw [Hid, HP.out, HT2.out, HKK.out, H3.out, H4.out, if_pos H5.out]
            cases data <;> simp
            intro h; omega
          by_cases hd : data = []
          · subst hd
            simp only [List.length_nil] at HRX d4
            go_wp2_with (go_at_call 68; refine (HRX.out h3 h4).mono ?_; rintro e w' ⟨rfl, hbr⟩)
            go_ret
            exact ⟨ret_bool (by rw [HT3.out]; simp), below_more hbr hbwx (Nat.le_refl _)⟩
          · have HDD := hid hd
            have hd2 : ((data.length : Int) == 0) = false := by
              rw [beq_eq_false_iff_ne]; intro e; exact hd (List.eq_nil_of_length_eq_zero (by omega))
            clear hd
            go_wp2_with (fail)
            go_ret
            exact ⟨ret_bool (by rw [HT3.out, decide_eq_false HDD.out]; simp), hbwx⟩
        case neg =>
          have h5' : (kind == 4) = false := by simpa using h5
          have H5 := hid h5
          clear h5
          have HT3 : Hid (secP ⟨name, kind, align, size, data, dp, dc, rel, rp, rc⟩ n = (decide ((data.length : Int) = size) && rb)) := by
            rw [Hid, HP.out, HT2.out, HKK.out, H3.out, H4.out, if_neg H5.out]; simp
          go_wp2_with (go_at_call 68; refine (HRX.out h3 h4).mono ?_; rintro e w' ⟨rfl, hbr⟩)
          all_goals (go_ret; refine ⟨ret_bool ?_, ?_⟩)
          all_goals first
            | exact hbwx
            | exact below_more (by assumption) hbwx (Nat.le_refl _)
            | (rw [HT3.out]; clear HN HK HA HRX HT2 HT HP HALL HWD HT3; simp_all; done)
end Go.Proofs.Yteccpmmedpkddaa
