/-
 ends: the walk.
 What lies where when a hand, the count of steps or a map is written, and when the lock is turned.
 unlocked: the walk.
 The table in plain words: what holds of it from its making on.
 Step of the code's table: what a step tells.
-/
import Derived.Test.YtabkmdhkfbcldaaGreatJL5
import Derived.Test.YtabkmdhkfbcldaaGreatJL1
namespace Go.Proofs.YtabkmdhkfbcldaaGreat
open Go.RowKit
variable {W W' : World} {base t : Nat} {K : Wk} {S : Sh} {B : TB}
def EndTell (W : World) (base t : Nat) (K : Wk) (S : Sh) (B : TB) (k : Nat) (n er : Int) (e : Ending) (w' : World) : Prop :=
 e = .returned (.tuple #[]) ∧ TabIs w' base t K (S.endC k n er) (B.endB k) ∧ But (fun b => b = B.bh ∨ B.vp.ownBlock = some b ∨ B.va.ownBlock = some b) W w' ∧ Below base W w'
set_option maxRecDepth 20000 in
set_option maxHeartbeats 2000000 in
theorem ends_any (h : TabIs W base t K S B) (k : Nat) (hk : k < K.work.length) (hp : B.pr k = true) (hn : S.next.getD k 0 < (K.own k).length) (hc : (S.hand k).call < S.calls.length) (hsz : (K.own k).length ≤ 1000000) (n er : Int) :
  Calls Tryz.prog 29 #[.pointer (some ⟨t, 0, none⟩), .int .i64 (k : Nat), .int .i64 n, .int .i64 er] W (EndTell W base t K S B k n er) := by
 have HT := hid h
 have HZ := hid (fun w1 : World => (show (zeroValue 68).run Tryz.prog w1 = .ok (.pointer none) w1 by kernel_rfl))
 have HM := hid h.hands
 have HL := hid (h.hand k hp).1
 obtain ⟨c0, c1, c2, c3, c4, c5, c6, c7, c8⟩ := tab_cells h.head
 have C4 := c4
 clear c0 c1 c2 c3 c5 c6 c7 c8 h c4
 go_enter Tryz.func29, Tryz.ntmps29
 go_upto_region 2 with (first
  | ((with_reducible show wpList _ _ _ (⟨some 15, _, _, _, _, _⟩ :: _) _ _); refine wpList_maplook KInt Tryz.underlying53 rfl (.tmp 13) (.tmp 14) false rfl (.pointer none) (HZ.out _) B.bh B.hm rfl HM.out (k : Int) rfl ?_; rw [HL.out])
  | (refine wpList_mapdel KInt Tryz.underlying53 rfl (.tmp 19) (.tmp 20) rfl B.bh B.hm rfl HM.out (k : Int) rfl ?_; intro w1 hm1 hg1; have HM1 := hid hm1; have HG1 := hid hg1; clear hm1 hg1))
 have hlt : ∀ b, b < W.heap.size → b ≠ B.bh → w1.heap[b]? = W.heap[b]? := fun b hl hne => HG1.out.block b hl (fun e => hne (Option.some.inj e))
 have htl : t < W.heap.size := (Array.getElem?_eq_some_iff.1 HT.out.head).1
 have hH1 : w1.heap[t]? = some (.cells #[.pointer (some ⟨B.m, 0, none⟩), .int .i64 K.shards, B.vw, B.va, .map (some B.bh), .map (some B.bv), .map (some B.bt), B.vp, .int .i64 S.steps] 58 (0, 0)) := (hlt t htl (tag_ne HT.out.tagT (map_tag HT.out.hands) (by decide))).trans HT.out.head
 have hB1 : w1.heap[B.hb k]? = some (.cells #[.int .i64 ((S.hand k).call : Nat), .int .i64 ((S.hand k).at_ : Nat), .bool (S.hand k).found, .int .i64 (B.hv k)] 71 (0, 0)) := (hlt _ (Array.getElem?_eq_some_iff.1 (HT.out.hand k hp).2).1 (tag_ne (HT.out.tagHand k hp) (map_tag HT.out.hands) (by decide))).trans (HT.out.hand k hp).2
 have hP1 : w1.ownsRow base 35 8 B.vp S.calls.length (S.calls.flatMap Cl.cells) := own_blk HT.out.past (fun g hg => hlt g (own_lt HT.out.past g hg) (tag_ne (own_tag HT.out.past hg) (map_tag HT.out.hands) (by decide)))
 have hA1 : w1.ownsRow base 3 1 B.va S.next.length (S.next.map natV) := own_blk HT.out.ats (fun g hg => hlt g (own_lt HT.out.ats g hg) (tag_ne (own_tag HT.out.ats hg) (map_tag HT.out.hands) (by decide)))
 obtain ⟨g, c, hvp, hgb, hgl, hgc, hcm⟩ := own_block hP1 (by omega)
 obtain ⟨ga, ca, hva, hab, hal, hac, ham⟩ := own_block hA1 (by rw [HT.out.nxl]; omega)
 obtain ⟨c0, c1, c2, c3, c4, c5, c6, c7, c8⟩ := tab_cells hH1
 have d0 := cell_of_row _ _ 0 _ _ _ hB1
 have d0' : w1.cell? ⟨B.hb k, 0, none⟩ = some (.int .i64 ((S.hand k).call : Nat)) := d0
 have HV := hid hvp
 have HVA := hid hva
 have HP1 := hid hP1
 have HA1 := hid hA1
 have HH1 := hid hH1
 rw [hvp] at c7
 rw [hva] at c3
 have hnl := HT.out.nxl
 have hak : S.next.getD k 0 ≤ 1000000 := by omega
 have ea := own_cell (hva ▸ hA1) k (by rw [List.length_map, hnl]; exact hk)
 have ea1 : w1.cell? ⟨ga, k, none⟩ = some (.int .i64 (S.next.getD k 0 : Nat)) := ea.1.trans (by simp [natV, List.getD_eq_getElem?_getD, show k < S.next.length by omega])
 have ef := own_cell (hvp ▸ hP1)
 have hfl := flat_len Cl.cells 8 (fun _ => rfl) S.calls
 obtain ⟨v5, e5, f5⟩ : ∃ v, w1.cell? ⟨g, (S.hand k).call * 8 + 5, none⟩ = some v ∧ w1.frozen? ⟨g, (S.hand k).call * 8 + 5, none⟩ = false := ⟨_, ef ((S.hand k).call * 8 + 5) (by omega)⟩
 obtain ⟨v6, e6, f6⟩ : ∃ v, w1.cell? ⟨g, (S.hand k).call * 8 + 6, none⟩ = some v ∧ w1.frozen? ⟨g, (S.hand k).call * 8 + 6, none⟩ = false := ⟨_, ef ((S.hand k).call * 8 + 6) (by omega)⟩
 obtain ⟨v7, e7, f7⟩ : ∃ v, w1.cell? ⟨g, (S.hand k).call * 8 + 7, none⟩ = some v ∧ w1.frozen? ⟨g, (S.hand k).call * 8 + 7, none⟩ = false := ⟨_, ef ((S.hand k).call * 8 + 7) (by omega)⟩
 clear ef hfl hlt hH1 hB1 hP1 hA1 d0
 have HD := hid hvp
 clear hvp hva HD
 generalize hyy : S.next.getD k 0 = y at *
 have HY := hid hyy
 clear hyy
 generalize hx : (S.hand k).call = x at *
 generalize hnn : S.calls.length = nl at *
 have hcn : ¬ nl ≤ x := by omega
 have HX := hid hx
 have HN := hid hnn
 clear hx hnn
 go_quiet (fail)
 go_upto_region 4 with fail
 obtain ⟨W3, hW3⟩ : ∃ W3, W3 = (((w1.drewN nq).setCell ⟨g, x * 8 + 5, none⟩ (.int .i64 S.steps)).setCell ⟨g, x * 8 + 6, none⟩ (.int .i64 n)).setCell ⟨g, x * 8 + 7, none⟩ (.int .i64 er) := ⟨_, rfl⟩
 rw [← hW3]
 have HW3 := hid hW3
 have htg : t ≠ g := fun e => tag_ne (by unfold tagAt; rw [HH1.out]; rfl) (own_tag HP1.out (by rw [HV.out]; rfl)) (show 58 + 1 ≠ 35 + 1 by decide) e
 have hag : ga ≠ g := fun e => tag_ne (own_tag HA1.out (by rw [HVA.out]; rfl)) (own_tag HP1.out (by rw [HV.out]; rfl)) (show 3 + 1 ≠ 35 + 1 by decide) e
 have hat : ga ≠ t := fun e => tag_ne (own_tag HA1.out (by rw [HVA.out]; rfl)) (by unfold tagAt; rw [HH1.out]; rfl) (show 3 + 1 ≠ 58 + 1 by decide) e
 have ko : ∀ b, b ≠ g → W3.heap[b]? = w1.heap[b]? := fun b hne => by
  rw [hW3, heap_setCell_other _ _ _ _ hne, heap_setCell_other _ _ _ _ hne, heap_setCell_other _ _ _ _ hne]; rfl
 have hz3 : W3.heap.size = w1.heap.size := by rw [hW3]; simp
 have z3 : W3.cell? ⟨t, 3, none⟩ = some (.slice (some ⟨ga, 0, none⟩) S.next.length ca) := (World.cell?_of_block (a := ⟨t, 3, none⟩) (ko t htg)).trans c3
 have za : W3.cell? ⟨ga, k, none⟩ = some (.int .i64 (y : Nat)) := (World.cell?_of_block (a := ⟨ga, k, none⟩) (ko ga hag)).trans ea1
 have zf : W3.frozen? ⟨ga, k, none⟩ = false := (World.frozen?_of_block (a := ⟨ga, k, none⟩) (ko ga hag)).trans ea.2
 have HFIN : Hid (EndTell W base t K S B k n er (.returned (.tuple #[])) (W3.setCell ⟨ga, k, none⟩ (.int .i64 ((y : Nat) + 1)))) := by
  have hP1 := HP1.out
  rw [HV.out] at hP1
  have hA1 := HA1.out
  rw [HVA.out] at hA1
  have hP3 := own_set (own_set (own_set (own_drewN hP1 nq) (x * 8 + 5) (.int .i64 S.steps)) (x * 8 + 6) (.int .i64 n)) (x * 8 + 7) (.int .i64 er)
  rw [← hW3, cl_set3 S.calls x (by rw [HN.out]; exact hc)] at hP3
  have hP4 := own_setO hP3 ⟨ga, k, none⟩ (.int .i64 ((y : Nat) + 1)) (fun b hb => by cases hb; exact fun e => hag e.symm)
  have hA3 : W3.ownsRow base 3 1 (.slice (some ⟨ga, 0, none⟩) S.next.length ca) S.next.length (S.next.map natV) := own_blk hA1 (fun b hb => by cases hb; exact ko ga hag)
  have hA4 := own_set hA3 k (.int .i64 ((y : Nat) + 1))
  have hmap : (S.next.map natV).set k (.int .i64 ((y : Nat) + 1)) = (S.next.set k (y + 1)).map natV := by
   rw [List.map_set]; rfl
  rw [hmap] at hA4
  have hko : ∀ b, b < W.heap.size → b ≠ B.bh → b ≠ g → b ≠ ga → (W3.setCell ⟨ga, k, none⟩ (.int .i64 ((y : Nat) + 1))).heap[b]? = W.heap[b]? := fun b hl n1 n2 n3 => by
   rw [heap_setCell_other _ _ _ _ n3, ko b n2]
   exact HG1.out.block b hl (fun e => n1 (Option.some.inj e))
  have hbut : But (fun b => b = B.bh ∨ B.vp.ownBlock = some b ∨ B.va.ownBlock = some b) W (W3.setCell ⟨ga, k, none⟩ (.int .i64 ((y : Nat) + 1))) := ⟨fun b hl hx => hko b hl (fun e => hx (.inl e)) (fun e => hx (.inr (.inl (by rw [HV.out, e]; rfl)))) (fun e => hx (.inr (.inr (by rw [HVA.out, e]; rfl)))), by have := HG1.out.size; simp; omega⟩
  have hmg : B.bh ≠ g := fun e => tag_ne (map_tag HM1.out) (own_tag HP1.out (by rw [HV.out]; rfl)) (by decide) e
  have hma : B.bh ≠ ga := fun e => tag_ne (map_tag HM1.out) (own_tag HA1.out (by rw [HVA.out]; rfl)) (by decide) e
  have hM4 : MapIs (Value.int .i64) id (W3.setCell ⟨ga, k, none⟩ (.int .i64 ((y : Nat) + 1))) B.bh (adel B.hm (k : Int)) := by
   obtain ⟨es, cl, hm, F⟩ := HM1.out
   exact ⟨es, cl, ((heap_setCell_other _ _ _ _ hma).trans (ko _ hmg)).trans hm, F⟩
  have hbt := (HT.out.ap B.bh (.inr (.inl rfl))).2
  refine ⟨rfl, HT.out.endd k hk (by rw [HY.out]; exact hn) n er hbut hM4 ?_ ?_, hbut, ?_⟩
  ·rw [HV.out, HN.out]
   unfold Sh.endC
   rw [HX.out]
   exact hP4
  ·rw [HVA.out]; unfold Sh.endC; rw [HY.out]; exact hA4
  ·have b1 : Below base W w1 := (Below.refl _ _).grown HG1.out (by omega) (fun x e => by cases e; exact hbt.1)
   rw [hW3]
   exact (((((below_drewN b1 nq).setCell hgb _).setCell hgb _).setCell hgb _).setCell hab _)
 clear hW3 HW3 ko
 go_wp2_with fail
 refine bodyPost_end (v := .tuple #[]) (by simp [results, Tryz.results29, go_sem]) rfl ?_
 exact HFIN.out
end Go.Proofs.YtabkmdhkfbcldaaGreat
namespace Go.Proofs.YtabkmdhkfbcldaaGreat
open Go.RowKit
variable {W W' : World} {base t : Nat} {K : Wk} {S : Sh} {B : TB}
def TB.poke (B : TB) (k : Nat) (v : Int) (vm : List (ByteArray × Int)) (tm : List (ByteArray × Bool)) : TB := { B with vm := vm, tm := tm, hv := fun w => if w = k then v else B.hv w }
def Sh.poke (S : Sh) (k : Nat) (x : Hn) (rows : List Rw) (steps : Nat) : Sh := { S with rows := rows, hands := S.hands.set k x, steps := steps }
def tabO (B : TB) (K : Wk) (steps : Nat) : Obj := .cells #[.pointer (some ⟨B.m, 0, none⟩), .int .i64 K.shards, B.vw, B.va, .map (some B.bh), .map (some B.bv), .map (some B.bt), B.vp, .int .i64 steps] 58 (0, 0)
def handO (x : Hn) (v : Int) : Obj := .cells #[.int .i64 (x.call : Nat), .int .i64 (x.at_ : Nat), .bool x.found, .int .i64 v] 71 (0, 0)
theorem TabIs.poked (h : TabIs W base t K S B) (k : Nat) (hk : k < K.work.length) (hp : B.pr k = true) (x : Hn) (v : Int) (steps : Nat) (rows : List Rw) (vm : List (ByteArray × Int)) (tm : List (ByteArray × Bool))
  (hb : But (fun b => b = t ∨ b = B.hb k ∨ b = B.bv ∨ b = B.bt) W W')
  (head : W'.heap[t]? = some (tabO B K steps)) (hand : W'.heap[B.hb k]? = some (handO x v))
  (vals : MapIs Value.string (Value.int .i64) W' B.bv vm) (valIs : ∀ key, alook vm key = (rowAt rows key).map Rw.val)
  (told : MapIs Value.string Value.bool W' B.bt tm) (toldIs : ∀ key, (alook tm key).getD false = match rowAt rows key with | some r => r.told | none => false) :
  TabIs W' base t K (S.poke k x rows steps) (B.poke k v vm tm) := by
 have hX : ∀ b, (b = t ∨ b = B.hb k ∨ b = B.bv ∨ b = B.bt) → B.wr t b := fun b hx => by
  rcases hx with e | e | e | e
  ·exact .inl e
  ·exact .inr (.inr (.inr (.inr (.inr (.inr ⟨k, hp, e.symm⟩)))))
  ·exact .inr (.inr (.inl e))
  ·exact .inr (.inr (.inr (.inl e)))
 obtain ⟨k1, k2, k3⟩ := h.kept (W' := W') ⟨fun b hl hn => hb.keep b hl (fun hx => hn (hX b hx)), hb.size⟩
 have hkl : k < S.hands.length := by rw [h.hnl]; exact hk
 have cellsNe : ∀ {b T : Nat}, tagAt W b = some (T + 1) → T ≠ 58 → T ≠ 71 → ¬ (b = t ∨ b = B.hb k ∨ b = B.bv ∨ b = B.bt) := fun hb0 n1 n2 => by
  rintro (e | e | e | e)
  ·exact tag_ne hb0 h.tagT (by omega) e
  ·exact tag_ne hb0 (h.tagHand k hp) (by omega) e
  ·exact tag_ne hb0 (map_tag h.vals) (by omega) e
  ·exact tag_ne hb0 (map_tag h.told) (by omega) e
 refine ⟨head, k1, h.lm, k2, k3, ?_, ?_, ?_, ?_, vals, valIs, told, toldIs, ?_, h.wsl, h.nxl, ?_, h.lkl, h.mp, h.hi, ?_, h.nxt, h.hnd⟩
 ·exact own_but h.ats hb (fun g hg => cellsNe (own_tag h.ats hg) (by decide) (by decide))
 ·refine h.hands.but hb ?_
  rintro (e | e | e | e)
  ·exact tag_ne (map_tag h.hands) h.tagT (by decide) e
  ·exact tag_ne (map_tag h.hands) (h.tagHand k hp) (by decide) e
  ·exact h.mp.1 e
  ·exact h.mp.2.1 e
 ·intro w hw
  refine ⟨(h.free w hw).1, ?_⟩
  have e : w ≠ k := fun e => by subst e; exact absurd (hp.symm.trans hw) (by simp)
  show ((S.setH k x).hand w).at_ = 0
  rw [setH_hand S k hkl, if_neg e]
  exact (h.free w hw).2
 ·intro w hw
  refine ⟨(h.hand w hw).1, ?_⟩
  show W'.heap[B.hb w]? = some (.cells #[.int .i64 (((S.setH k x).hand w).call : Nat), .int .i64 (((S.setH k x).hand w).at_ : Nat), .bool ((S.setH k x).hand w).found, .int .i64 (if w = k then v else B.hv w)] 71 (0, 0))
  rw [setH_hand S k hkl]
  by_cases e : w = k
  ·subst e
   rw [if_pos rfl, if_pos rfl]
   exact hand
  ·rw [if_neg e, if_neg e]
   refine (hb.keep _ (Array.getElem?_eq_some_iff.1 (h.hand w hw).2).1 ?_).trans (h.hand w hw).2
   rintro (e2 | e2 | e2 | e2)
   ·exact tag_ne (h.tagHand w hw) h.tagT (by decide) e2
   ·exact e (h.hi w k hw hp e2)
   ·exact tag_ne (h.tagHand w hw) (map_tag h.vals) (by decide) e2
   ·exact tag_ne (h.tagHand w hw) (map_tag h.told) (by decide) e2
 ·exact own_but h.past hb (fun g hg => cellsNe (own_tag h.past hg) (by decide) (by decide))
 ·show (S.hands.set k x).length = _
  rw [List.length_set]; exact h.hnl
 ·intro b hm
  have := h.ap b hm
  exact ⟨this.1, this.2.1, Nat.lt_of_lt_of_le this.2.2 hb.size⟩
theorem TabIs.locked (h : TabIs W base t K S B) (lm : Mem) (fm : Nat → Prop) (locks : List Int) (hb : Turn B.fm W W') (hm : MMach W' base B.m hdM lm fm) (hl : lm.cs = locks.map lockCe) (hfm : ∀ b, fm b → B.fm b ∨ W.heap.size ≤ b)
  (hll : locks.length = K.shards) : TabIs W' base t K { S with locks := locks } { B with lm := lm, fm := fm } := by
 have kp : ∀ b, B.mine K t b → W'.heap[b]? = W.heap[b]? := fun b hm => hb.block b (h.ap b hm).2.2 (h.ap b hm).1
 have m0 : B.mine K t t := .inl rfl
 have m1 : B.mine K t B.bh := .inr (.inl rfl)
 have m2 : B.mine K t B.bv := .inr (.inr (.inl rfl))
 have m3 : B.mine K t B.bt := .inr (.inr (.inr (.inl rfl)))
 have mapk : ∀ {κ β : Type} {mk : κ → Value} {mv : β → Value} {b : Nat} {m : List (κ × β)}, MapIs mk mv W b m → B.mine K t b → MapIs mk mv W' b m := fun hM hmi => by
  obtain ⟨es, c, he, F⟩ := hM
  exact ⟨es, c, (kp _ hmi).trans he, F⟩
 refine ⟨(kp t m0).trans h.head, hm, hl, own_blk h.work (fun g hg => kp g (.inr (.inr (.inr (.inr (.inl hg)))))), fun w hw => own_blk (h.asks w hw) (fun g hg => kp g (.inr (.inr (.inr (.inr (.inr (.inr (.inr (.inl ⟨w, hw, hg⟩)))))))))
  , own_blk h.ats (fun g hg => kp g (.inr (.inr (.inr (.inr (.inr (.inl hg))))))), mapk h.hands m1, h.free, fun w hw => ⟨(h.hand w hw).1, (kp _ (.inr (.inr (.inr (.inr (.inr (.inr (.inr (.inr ⟨w, hw, rfl⟩))))))))).trans (h.hand w hw).2⟩
  , mapk h.vals m2, h.valIs, mapk h.told m3, h.toldIs, own_blk h.past (fun g hg => kp g (.inr (.inr (.inr (.inr (.inr (.inr (.inl hg)))))))), h.wsl, h.nxl, h.hnl, hll, h.mp, h.hi, fun b hmi => ?_, h.nxt, h.hnd⟩
 obtain ⟨a1, a2, a3⟩ := h.ap b hmi
 refine ⟨fun hf => ?_, a2, Nat.lt_of_lt_of_le a3 hb.size⟩
 rcases hfm b hf with e | e
 ·exact a1 e
 ·omega
theorem TabIs.doLock (h : TabIs W base t K S B) (i : Nat) (hi : i < K.shards) (k : Nat) (hk : k < 64) (hf : S.locks.getD i (-1) = -1) : (B.lm.step (k : Int) ⟨3, (i : Nat), 0, 0⟩).cs = (S.locks.set i (k : Int)).map lockCe := by
 unfold Mem.step
 rw [h.look i hi (k : Int) 3 (by unfold isW; simp; omega), hf]
 have e : stepP (lockCe (-1)) (k : Int) ⟨3, (i : Nat), 0, 0⟩ = (lockCe k, 0, 0) := by
  have : ¬ ((-1 : Int) = k) := by omega
  simp [stepP, lockCe, this]
 rw [e, if_pos rfl, h.lm]
 show (S.locks.map lockCe).set (Int.toNat ((i : Nat) : Int)) (lockCe k) = _
 rw [Int.toNat_natCast, List.map_set]
theorem TabIs.doUnlock (h : TabIs W base t K S B) (i : Nat) (hi : i < K.shards) (k : Nat) (hk : k < 64) (hf : S.locks.getD i (-1) = k) : (B.lm.step (k : Int) ⟨4, (i : Nat), 0, 0⟩).cs = (S.locks.set i (-1)).map lockCe := by
 unfold Mem.step
 rw [h.look i hi (k : Int) 4 (by unfold isW; simp; omega), hf]
 have e : stepP (lockCe k) (k : Int) ⟨4, (i : Nat), 0, 0⟩ = (lockCe (-1), 0, 0) := by
  simp [stepP, lockCe]
 rw [e, if_pos rfl, h.lm]
 show (S.locks.map lockCe).set (Int.toNat ((i : Nat) : Int)) (lockCe (-1)) = _
 rw [Int.toNat_natCast, List.map_set]
def TB.fp (B : TB) (K : Wk) (t b : Nat) : Prop := B.mine K t b ∨ B.fm b
end Go.Proofs.YtabkmdhkfbcldaaGreat
namespace Go.Proofs.YtabkmdhkfbcldaaGreat
open Go.RowKit
variable {W W' : World} {base t : Nat} {K : Wk} {S : Sh} {B : TB}
theorem But.below {X : Nat → Prop} {w1 : World} (h1 : Below W.heap.size W w1) (h2 : But X w1 W') : But X W W' :=
 ⟨fun b hl hx => (h2.keep b (Nat.lt_of_lt_of_le hl h1.size) hx).trans (h1.block b hl), Nat.le_trans h1.size h2.size⟩
theorem But.mono {X Y : Nat → Prop} (h : But X W W') (hx : ∀ b, X b → Y b) : But Y W W' := ⟨fun b hl hn => h.keep b hl (fun e => hn (hx b e)), h.size⟩
def endV (a : Ak) (found : Bool) (v : Int) : Option (Int × Int) :=
 if a.kind = 1 then some (0, if found then 5 else 0)
 else if found then some (v, 0)
 else if a.kind = 2 then some (0, 4)
 else none
def UnTell (W : World) (base t : Nat) (K : Wk) (S : Sh) (B : TB) (k : Nat) (r : Option (Int × Int)) (e : Ending) (w' : World) : Prop :=
 e = .returned (.tuple #[]) ∧ (match r with
  | some (n, er) => TabIs w' base t K (S.endC k n er) (B.endB k)
  | none => TabIs w' base t K (S.poke k ⟨5, (S.hand k).found, (S.hand k).call⟩ S.rows S.steps) (B.poke k (B.hv k) B.vm B.tm)) ∧ But (B.wr t) W w' ∧ Below base W w'
theorem end_wr (b : Nat) (hx : b = B.bh ∨ B.vp.ownBlock = some b ∨ B.va.ownBlock = some b) : B.wr t b := by
 rcases hx with e | e | e
 ·exact .inr (.inl e)
 ·exact .inr (.inr (.inr (.inr (.inr (.inl e)))))
 ·exact .inr (.inr (.inr (.inr (.inl e))))
theorem UnTell.of_end {w1 w' : World} {k : Nat} {n er : Int} (hb : Below W.heap.size W w1) (hbase : base ≤ W.heap.size) (h : EndTell w1 base t K S B k n er (.returned (.tuple #[])) w') : UnTell W base t K S B k (some (n, er)) (.returned (.tuple #[])) w' :=
 ⟨rfl, h.2.1, But.below hb (h.2.2.1.mono end_wr), (hb.mono hbase).trans h.2.2.2⟩
theorem UnTell.alloc {k : Nat} (h : UnTell W base t K S B k none (.returned (.tuple #[])) W') (o : Obj) (hbase : base ≤ W.heap.size) : UnTell W base t K S B k none (.returned (.tuple #[])) (W'.alloc o) :=
 ⟨rfl, h.2.1.below ((Below.refl _ _).alloc (Nat.le_refl _) _), ⟨fun b hl hx => (Below.heap_alloc _ _ _ (Nat.lt_of_lt_of_le hl h.2.2.1.size)).trans (h.2.2.1.keep b hl hx), by have := h.2.2.1.size; simp; omega⟩, h.2.2.2.alloc (by have := h.2.2.1.size; omega) _⟩
set_option maxRecDepth 20000 in
set_option maxHeartbeats 2000000 in
theorem unlocked_any (h : TabIs W base t K S B) (k : Nat) (hk : k < K.work.length) (hp : B.pr k = true) (hn : S.next.getD k 0 < (K.own k).length) (hc : (S.hand k).call < S.calls.length) (hsz : (K.own k).length ≤ 1000000) :
  Calls Tryz.prog 28 #[.pointer (some ⟨t, 0, none⟩), .int .i64 (k : Nat), .pointer (some ⟨B.hb k, 0, none⟩)] W (UnTell W base t K S B k (endV (S.ask K k) (S.hand k).found (B.hv k))) := by
 have HT := hid h
 have HBS : Hid (base ≤ W.heap.size) := by have := (h.ap t (.inl rfl)).2; unfold Hid; omega
 have HA := hid (ask_any h k hk hn)
 have HE := hid (fun (w1 : World) (hb : Below W.heap.size W w1) (n er : Int) => ends_any (h.below hb) k hk hp hn hc hsz n er)
 have hH := (h.hand k hp).2
 have hlt : B.hb k < W.heap.size := (Array.getElem?_eq_some_iff.1 hH).1
 have q1 := cell_of_row _ _ 1 _ _ _ hH
 have q2 := cell_of_row _ _ 2 _ _ _ hH
 have q3 := cell_of_row _ _ 3 _ _ _ hH
 have f1 := frozen_of_row _ _ 1 _ _ hH
 have g1 : ∀ w', Below W.heap.size W w' → w'.cell? ⟨B.hb k, 1, none⟩ = some (.int .i64 ((S.hand k).at_ : Nat)) := fun w' hb => (hb.cell (p := ⟨B.hb k, 1, none⟩) hlt).trans q1
 have g2 : ∀ w', Below W.heap.size W w' → w'.cell? ⟨B.hb k, 2, none⟩ = some (.bool (S.hand k).found) := fun w' hb => (hb.cell (p := ⟨B.hb k, 2, none⟩) hlt).trans q2
 have g3 : ∀ w', Below W.heap.size W w' → w'.cell? ⟨B.hb k, 3, none⟩ = some (.int .i64 (B.hv k)) := fun w' hb => (hb.cell (p := ⟨B.hb k, 3, none⟩) hlt).trans q3
 have gf : ∀ w', Below W.heap.size W w' → w'.frozen? ⟨B.hb k, 1, none⟩ = false := fun w' hb => (World.frozen?_of_block (a := ⟨B.hb k, 1, none⟩) (hb.block _ hlt)).trans f1
 have HPK : Hid (∀ w1, Below W.heap.size W w1 → UnTell W base t K S B k none (.returned (.tuple #[])) (w1.setCell ⟨B.hb k, 1, none⟩ (.int .i64 5))) := fun w1 hb => by
  have h1 := h.below hb
  have htg : t ≠ B.hb k := tag_ne h1.tagT (h1.tagHand k hp) (by decide)
  have hvg : B.bv ≠ B.hb k := tag_ne (map_tag h1.vals) (h1.tagHand k hp) (by decide)
  have hdg : B.bt ≠ B.hb k := tag_ne (map_tag h1.told) (h1.tagHand k hp) (by decide)
  have hbut : But (fun b => b = t ∨ b = B.hb k ∨ b = B.bv ∨ b = B.bt) w1 (w1.setCell ⟨B.hb k, 1, none⟩ (.int .i64 5)) := ⟨fun b _ hx => heap_setCell_other _ _ _ _ (fun e => hx (.inr (.inl e))), by simp⟩
  refine ⟨rfl, h1.poked k hk hp ⟨5, (S.hand k).found, (S.hand k).call⟩ (B.hv k) S.steps S.rows B.vm B.tm hbut ?_ ?_ ?_ h.valIs ?_ h.toldIs, But.below hb (hbut.mono ?_), ((hb.mono HBS.out).setCell ?_ _)⟩
  ·exact (heap_setCell_other _ _ _ _ htg).trans h1.head
  ·exact heap_setCell_same _ _ 1 _ _ _ (h1.hand k hp).2
  ·obtain ⟨es, c, he, F⟩ := h1.vals
   exact ⟨es, c, (heap_setCell_other _ _ _ _ hvg).trans he, F⟩
  ·obtain ⟨es, c, he, F⟩ := h1.told
   exact ⟨es, c, (heap_setCell_other _ _ _ _ hdg).trans he, F⟩
  ·rintro b (e | e | e | e)
   ·exact .inl e
   ·exact .inr (.inr (.inr (.inr (.inr (.inr ⟨k, hp, e.symm⟩)))))
   ·exact .inr (.inr (.inl e))
   ·exact .inr (.inr (.inr (.inl e)))
  ·exact (h.ap _ (.inr (.inr (.inr (.inr (.inr (.inr (.inr (.inr ⟨k, hp, rfl⟩))))))))).2.1
 clear h hH q1 q2 q3 f1
 generalize hak : S.ask K k = ak at *
 have HAK := hid hak
 clear hak
 obtain ⟨kd, ky, av⟩ := ak
 dsimp only at *
 generalize (S.hand k).found = fo at g2 ⊢
 generalize (S.hand k).at_ = ta at g1
 generalize B.hv k = hv at g3 ⊢
 by_cases h1 : kd = 1
 ·subst h1
  cases fo with
  | true =>
   show Calls _ _ _ _ (UnTell W base t K S B k (some (0, 5)))
   go_enter Tryz.func28, Tryz.ntmps28
   go_wp2_with (first
    | (go_at_call 25; (with_reducible refine HA.out.mono ?_); rintro e w3 ⟨rfl, hb3⟩; have G1 := g1 w3 hb3; have GF := gf w3 hb3; have G2 := g2 w3 hb3; have G3 := g3 w3 hb3; have HB3 := hid hb3; have hz3 := hb3.size; have hlw : B.hb k < w3.heap.size := (by omega); clear hb3 hz3)
    | (go_at_call 29; (with_reducible refine (HE.out _ (HB3.out.alloc HB3.out.size _) 0 5).mono ?_); rintro e w4 ⟨rfl, he4⟩; have HE4 := hid he4; clear he4))
   refine bodyPost_end (v := .tuple #[]) (by simp [results, Tryz.results28, go_sem]) rfl ?_
   exact UnTell.of_end (HB3.out.alloc HB3.out.size _) HBS.out ⟨rfl, HE4.out⟩
  | false =>
   show Calls _ _ _ _ (UnTell W base t K S B k (some (0, 0)))
   go_enter Tryz.func28, Tryz.ntmps28
   go_wp2_with (first
    | (go_at_call 25; (with_reducible refine HA.out.mono ?_); rintro e w3 ⟨rfl, hb3⟩; have G1 := g1 w3 hb3; have GF := gf w3 hb3; have G2 := g2 w3 hb3; have G3 := g3 w3 hb3; have HB3 := hid hb3; have hz3 := hb3.size; have hlw : B.hb k < w3.heap.size := (by omega); clear hb3 hz3)
    | (go_at_call 29; (with_reducible refine (HE.out _ (HB3.out.alloc HB3.out.size _) 0 0).mono ?_); rintro e w4 ⟨rfl, he4⟩; have HE4 := hid he4; clear he4))
   refine bodyPost_end (v := .tuple #[]) (by simp [results, Tryz.results28, go_sem]) rfl ?_
   exact UnTell.of_end (HB3.out.alloc HB3.out.size _) HBS.out ⟨rfl, HE4.out⟩
 ·have hd1 : (kd == 1) = false := by simpa using h1
  have hd1' : decide (kd = 1) = false := by simpa using h1
  cases fo with
  | true =>
   have hr : endV ⟨kd, ky, av⟩ true hv = some (hv, 0) := by unfold endV; rw [if_neg h1]; rfl
   rw [hr]
   clear hr
   show Calls _ _ _ _ (UnTell W base t K S B k (some (hv, 0)))
   go_enter Tryz.func28, Tryz.ntmps28
   go_wp2_with (first
    | (go_at_call 25; (with_reducible refine HA.out.mono ?_); rintro e w3 ⟨rfl, hb3⟩; have G1 := g1 w3 hb3; have GF := gf w3 hb3; have G2 := g2 w3 hb3; have G3 := g3 w3 hb3; have HB3 := hid hb3; have hz3 := hb3.size; have hlw : B.hb k < w3.heap.size := (by omega); clear hb3 hz3)
    | (go_at_call 29; (with_reducible refine (HE.out _ (HB3.out.alloc HB3.out.size _) hv 0).mono ?_); rintro e w4 ⟨rfl, he4⟩; have HE4 := hid he4; clear he4))
   refine bodyPost_end (v := .tuple #[]) (by simp [results, Tryz.results28, go_sem]) rfl ?_
   exact UnTell.of_end (HB3.out.alloc HB3.out.size _) HBS.out ⟨rfl, HE4.out⟩
  | false =>
   by_cases h2 : kd = 2
   ·subst h2
    show Calls _ _ _ _ (UnTell W base t K S B k (some (0, 4)))
    go_enter Tryz.func28, Tryz.ntmps28
    go_wp2_with (first
     | (go_at_call 25; (with_reducible refine HA.out.mono ?_); rintro e w3 ⟨rfl, hb3⟩; have G1 := g1 w3 hb3; have GF := gf w3 hb3; have G2 := g2 w3 hb3; have G3 := g3 w3 hb3; have HB3 := hid hb3; have hz3 := hb3.size; have hlw : B.hb k < w3.heap.size := (by omega); clear hb3 hz3)
     | (go_at_call 29; (with_reducible refine (HE.out _ (HB3.out.alloc HB3.out.size _) 0 4).mono ?_); rintro e w4 ⟨rfl, he4⟩; have HE4 := hid he4; clear he4))
    refine bodyPost_end (v := .tuple #[]) (by simp [results, Tryz.results28, go_sem]) rfl ?_
    exact UnTell.of_end (HB3.out.alloc HB3.out.size _) HBS.out ⟨rfl, HE4.out⟩
   ·have hd2 : (kd == 2) = false := by simpa using h2
    have hr : endV ⟨kd, ky, av⟩ false hv = none := by unfold endV; rw [if_neg h1, if_neg (by simp), if_neg h2]
    rw [hr]
    clear hr
    show Calls _ _ _ _ (UnTell W base t K S B k none)
    go_enter Tryz.func28, Tryz.ntmps28
    go_wp2_with (first
     | (go_at_call 25; (with_reducible refine HA.out.mono ?_); rintro e w3 ⟨rfl, hb3⟩; have G1 := g1 w3 hb3; have GF := gf w3 hb3; have G2 := g2 w3 hb3; have G3 := g3 w3 hb3; have HB3 := hid hb3; have hz3 := hb3.size; have hlw : B.hb k < w3.heap.size := (by omega); clear hb3 hz3))
    refine bodyPost_end (v := .tuple #[]) (by simp [results, Tryz.results28, go_sem]) rfl ?_
    exact (HPK.out _ HB3.out).alloc _ HBS.out
end Go.Proofs.YtabkmdhkfbcldaaGreat
namespace Go.Proofs.YtabkmdhkfbcldaaGreat
structure WOk (K : Wk) (S : Sh) (w : Nat) : Prop where
 nxt : S.next.getD w 0 ≤ (K.own w).length
 inh : (S.hand w).at_ ≠ 0 → S.next.getD w 0 < (K.own w).length ∧ (S.hand w).call < S.calls.length ∧ (S.hand w).at_ ≤ 5
 lock : 1 ≤ (S.hand w).at_ → (S.hand w).at_ ≤ 4 → S.lockOf K w = w
 two : (S.hand w).at_ = 2 → (S.ask K w).kind = 1 ∧ S.get (S.ask K w).key = none ∧ (S.hand w).found = false
 three : (S.hand w).at_ = 3 → (S.ask K w).kind = 1 ∧ S.get (S.ask K w).key = some (S.ask K w).value ∧ (S.hand w).found = false ∧ S.toldN (S.ask K w).key = false
 four : (S.hand w).at_ = 4 → ((S.hand w).found = true → S.get (S.ask K w).key ≠ none) ∧ ((S.hand w).found = false → (S.ask K w).kind ≠ 1 → S.get (S.ask K w).key = none) ∧ ((S.hand w).found = false → (S.ask K w).kind = 1 → S.get (S.ask K w).key = some (S.ask K w).value)
 five : (S.hand w).at_ = 5 → (S.ask K w).kind ≠ 1 ∧ (S.ask K w).kind ≠ 2
def Held (K : Wk) (S : Sh) : Prop := ∀ i, i < K.shards → S.locks.getD i (-1) = -1 ∨ ∃ v, v < K.work.length ∧ S.locks.getD i (-1) = (v : Int) ∧ 1 ≤ (S.hand v).at_ ∧ (S.hand v).at_ ≤ 4 ∧ K.of (S.ask K v).key = i
structure ShOk (K : Wk) (S : Sh) : Prop where
 nxl : S.next.length = K.work.length
 hnl : S.hands.length = K.work.length
 lkl : S.locks.length = K.shards
 each : ∀ w, w < K.work.length → WOk K S w
 keys : (S.rows.map Rw.key).Nodup
 untold : ∀ r ∈ S.rows, r.told = false → ∃ w, w < K.work.length ∧ (S.hand w).at_ = 3 ∧ (S.ask K w).key = r.key
 cnt : S.calls.length ≤ S.steps
 held : Held K S
theorem getD_set {α : Type} (l : List α) (k : Nat) (hk : k < l.length) (x d : α) (w : Nat) : (l.set k x).getD w d = if w = k then x else l.getD w d := by
 rw [List.getD_eq_getElem?_getD, List.getElem?_set]
 by_cases e : w = k
 ·subst e; simp [hk]
 ·rw [if_neg e, if_neg (fun h => e h.symm), ← List.getD_eq_getElem?_getD]
theorem rowAt_app (l : List Rw) (r : Rw) (k : ByteArray) : rowAt (l ++ [r]) k = (rowAt l k).or (if r.key = k then some r else none) := by
 unfold rowAt
 rw [List.find?_append]
 congr 1
 by_cases e : r.key = k <;> simp [List.find?, e]
def tellR (k : ByteArray) (r : Rw) : Rw := if r.key = k then ⟨r.key, r.val, true⟩ else r
theorem tellR_key (k : ByteArray) (r : Rw) : (tellR k r).key = r.key := by unfold tellR; split <;> rfl
theorem tellR_val (k : ByteArray) (r : Rw) : (tellR k r).val = r.val := by unfold tellR; split <;> rfl
theorem rowAt_tell (k x : ByteArray) : ∀ (l : List Rw), rowAt (l.map (tellR k)) x = (rowAt l x).map (tellR k)
 | [] => rfl
 | r :: l => by
  have ih := rowAt_tell k x l
  unfold rowAt at ih ⊢
  rw [List.map_cons, List.find?_cons, List.find?_cons, tellR_key]
  by_cases e : r.key = x
  ·simp [e]
  ·simp only [decide_eq_false e]; exact ih
theorem rowAt_some {l : List Rw} {k : ByteArray} {r : Rw} (h : rowAt l k = some r) : r ∈ l ∧ r.key = k := by
 unfold rowAt at h
 exact ⟨List.mem_of_find?_eq_some h, by simpa using List.find?_some h⟩
theorem rowAt_none {l : List Rw} {k : ByteArray} (h : rowAt l k = none) : k ∉ l.map Rw.key := by
 unfold rowAt at h
 rw [List.find?_eq_none] at h
 intro hm
 obtain ⟨r, hr, e⟩ := List.mem_map.1 hm
 exact h r hr (by simpa using e)
section
variable {K : Wk} {S : Sh}
theorem get_app (r : Rw) (k : ByteArray) (S' : Sh) (hr : S'.rows = S.rows ++ [r]) : S'.get k = (S.get k).or (if r.key = k then some r.val else none) := by
 unfold Sh.get
 rw [hr, rowAt_app]
 cases rowAt S.rows k <;> simp
theorem told_app (r : Rw) (k : ByteArray) (S' : Sh) (hr : S'.rows = S.rows ++ [r]) (hn : r.told = false) : S'.toldN k = S.toldN k := by
 unfold Sh.toldN
 rw [hr, rowAt_app]
 cases rowAt S.rows k with
 | some x => rfl
 | none =>
  by_cases e : r.key = k
  ·simp [e, hn]
  ·simp [e]
theorem get_tell (x k : ByteArray) (S' : Sh) (hr : S'.rows = S.rows.map (tellR x)) : S'.get k = S.get k := by
 unfold Sh.get
 rw [hr, rowAt_tell]
 cases rowAt S.rows k <;> simp [tellR_val]
theorem told_tell (x k : ByteArray) (S' : Sh) (hr : S'.rows = S.rows.map (tellR x)) : S'.toldN k = if k = x then (S.get k).isSome else S.toldN k := by
 unfold Sh.toldN Sh.get
 rw [hr, rowAt_tell]
 cases h : rowAt S.rows k with
 | none => simp
 | some r =>
  have hk := (rowAt_some h).2
  by_cases e : k = x
  ·simp [tellR, hk, e]
  ·simp [tellR, hk, e]
theorem get_rows (S' : Sh) (hr : S'.rows = S.rows) (k : ByteArray) : S'.get k = S.get k := by unfold Sh.get; rw [hr]
theorem told_rows (S' : Sh) (hr : S'.rows = S.rows) (k : ByteArray) : S'.toldN k = S.toldN k := by unfold Sh.toldN; rw [hr]
theorem WOk.other {v : Nat} (h : WOk K S v) (S' : Sh) (hn : S'.next.getD v 0 = S.next.getD v 0) (hh : S'.hand v = S.hand v) (hc : S.calls.length ≤ S'.calls.length)
  (hl : 1 ≤ (S.hand v).at_ → (S.hand v).at_ ≤ 4 → S.lockOf K v = v → S'.lockOf K v = v)
  (hg : 1 ≤ (S.hand v).at_ → (S.hand v).at_ ≤ 4 → S'.get (S.ask K v).key = S.get (S.ask K v).key ∧ S'.toldN (S.ask K v).key = S.toldN (S.ask K v).key) : WOk K S' v := by
 have ha : S'.ask K v = S.ask K v := by unfold Sh.ask; rw [hn]
 refine ⟨by rw [hn]; exact h.nxt, ?_, ?_, ?_, ?_, ?_, ?_⟩
 ·rw [hh, hn]; intro h0; have := h.inh h0; exact ⟨this.1, by omega, this.2.2⟩
 ·rw [hh]; intro h1 h2; exact hl h1 h2 (h.lock h1 h2)
 ·rw [hh, ha]; intro h2; rw [(hg (by omega) (by omega)).1]; exact h.two h2
 ·rw [hh, ha]; intro h2; rw [(hg (by omega) (by omega)).1, (hg (by omega) (by omega)).2]; exact h.three h2
 ·rw [hh, ha]; intro h2; rw [(hg (by omega) (by omega)).1]; exact h.four h2
 ·rw [hh, ha]; exact h.five
theorem hand_set (S' : Sh) (w : Nat) (x : Hn) (hw : w < S.hands.length) (e : S'.hands = S.hands.set w x) (v : Nat) : S'.hand v = if v = w then x else S.hand v := by
 unfold Sh.hand; rw [e, getD_set _ _ hw]
theorem ShOk.build (h : ShOk K S) (w : Nat) (hw : w < K.work.length) (S' : Sh) (x : Hn) (e1 : S'.next.length = S.next.length) (e1' : ∀ v, v ≠ w → S'.next.getD v 0 = S.next.getD v 0) (e2 : S'.hands = S.hands.set w x)
  (e3 : S'.locks.length = S.locks.length) (e4 : S.calls.length ≤ S'.calls.length) (e5 : S'.calls.length ≤ S'.steps)
  (ho : ∀ v, v < K.work.length → v ≠ w → 1 ≤ (S.hand v).at_ → (S.hand v).at_ ≤ 4 → (S.lockOf K v = v → S'.locks.getD (K.of (S.ask K v).key) (-1) = v) ∧ S'.get (S.ask K v).key = S.get (S.ask K v).key ∧ S'.toldN (S.ask K v).key = S.toldN (S.ask K v).key)
  (hs : S'.hand w = x → WOk K S' w) (hk : (S'.rows.map Rw.key).Nodup)
  (hu : (∀ v, v ≠ w → S'.hand v = S.hand v) → (∀ v, v ≠ w → S'.ask K v = S.ask K v) → S'.hand w = x → ∀ r ∈ S'.rows, r.told = false → ∃ v, v < K.work.length ∧ (S'.hand v).at_ = 3 ∧ (S'.ask K v).key = r.key)
  (hd : (∀ v, v ≠ w → S'.hand v = S.hand v) → (∀ v, v ≠ w → S'.ask K v = S.ask K v) → S'.hand w = x → Held K S') : ShOk K S' := by
 have hh := hand_set S' w x (by rw [h.hnl]; exact hw) e2
 have ha : ∀ v, v ≠ w → S'.ask K v = S.ask K v := fun v hv => by unfold Sh.ask; rw [e1' v hv]
 refine ⟨by rw [e1]; exact h.nxl, by rw [e2, List.length_set]; exact h.hnl, by rw [e3]; exact h.lkl, fun v hv => ?_, hk, hu (fun v hv => by rw [hh, if_neg hv]) ha (by rw [hh, if_pos rfl]), e5, hd (fun v hv => by rw [hh, if_neg hv]) ha (by rw [hh, if_pos rfl])⟩
 by_cases e : v = w
 ·subst e; exact hs (by rw [hh, if_pos rfl])
 ·refine (h.each v hv).other S' (e1' v e) (by rw [hh, if_neg e]) e4 (fun h1 h2 h3 => ?_) (fun h1 h2 => (ho v hv e h1 h2).2)
  unfold Sh.lockOf; rw [ha v e]; exact (ho v hv e h1 h2).1 h3
theorem can_facts {w : Nat} (hc : S.canN K w = true) : S.doneN K w = false ∧ S.waitsN K w = false := by
 unfold Sh.canN at hc
 simpa using hc
theorem ShOk.nx {w : Nat} (h : ShOk K S) (hw : w < K.work.length) (hd : S.doneN K w = false) : S.next.getD w 0 < (K.own w).length := by
 have := (h.each w hw).nxt
 unfold Sh.doneN at hd
 simp only [Bool.or_eq_false_iff, decide_eq_false_iff_not] at hd
 omega
theorem ShOk.apart (h : ShOk K S) {v w : Nat} (hv : v < K.work.length) (hw : w < K.work.length) (hne : v ≠ w) (h1 : 1 ≤ (S.hand v).at_) (h4 : (S.hand v).at_ ≤ 4) (hc : S.canN K w = true) (hw4 : (S.hand w).at_ ≤ 4) :
  K.of (S.ask K w).key ≠ K.of (S.ask K v).key := fun e => by
 have lv := (h.each v hv).lock h1 h4
 by_cases h0 : (S.hand w).at_ = 0
 ·obtain ⟨hd, hwt⟩ := can_facts hc
  unfold Sh.waitsN at hwt
  rw [if_neg (by rw [hd]; simp)] at hwt
  rw [h0] at hwt
  have el : S.lockOf K w = S.lockOf K v := by unfold Sh.lockOf; rw [e]
  rw [el, lv] at hwt
  simp at hwt
  omega
 ·have lw := (h.each w hw).lock (by omega) hw4
  have el : S.lockOf K w = S.lockOf K v := by unfold Sh.lockOf; rw [e]
  rw [el, lv] at lw
  omega
theorem locks_set (l : List Int) (i j : Nat) (x : Int) (h : i ≠ j) : (l.set i x).getD j (-1) = l.getD j (-1) := by
 rw [List.getD_eq_getElem?_getD, List.getElem?_set_ne h, ← List.getD_eq_getElem?_getD]
theorem locks_self (l : List Int) (i : Nat) (x : Int) (h : i < l.length) : (l.set i x).getD i (-1) = x := by
 rw [List.getD_eq_getElem?_getD, List.getElem?_set_self h]; rfl
theorem get_none_key {k : ByteArray} (h : S.get k = none) : k ∉ S.rows.map Rw.key := by
 unfold Sh.get at h
 exact rowAt_none (by simpa using h)
theorem untold_keep {S' : Sh} {w : Nat} (h : ShOk K S) (hr : S'.rows = S.rows) (h3 : (S.hand w).at_ ≠ 3) (hh : ∀ v, v ≠ w → S'.hand v = S.hand v) (ha : ∀ v, v ≠ w → S'.ask K v = S.ask K v) :
  ∀ r ∈ S'.rows, r.told = false → ∃ v, v < K.work.length ∧ (S'.hand v).at_ = 3 ∧ (S'.ask K v).key = r.key := fun r hm ht => by
 rw [hr] at hm
 obtain ⟨v, v1, v2, v3⟩ := h.untold r hm ht
 have hne : v ≠ w := fun e => by subst e; exact h3 v2
 exact ⟨v, v1, by rw [hh v hne]; exact v2, by rw [ha v hne]; exact v3⟩
theorem ShOk.ended (h : ShOk K S) {w : Nat} (hw : w < K.work.length) (hc : S.canN K w = true) (h3 : (S.hand w).at_ ≠ 3) (S' : Sh) (e1 : S'.next = S.next.set w (S.next.getD w 0 + 1)) (e2 : S'.hands = S.hands.set w hn0)
  (e3 : S'.locks = S.locks ∧ (S.hand w).at_ = 5 ∨ S'.locks = S.locks.set (K.of (S.ask K w).key) (-1) ∧ (S.hand w).at_ ≤ 4) (HO : ∀ k, K.of k < K.shards) (e4 : S'.calls.length = S.calls.length) (e5 : S'.steps = S.steps + 1) (e6 : S'.rows = S.rows) : ShOk K S' := by
 have hnx := h.nx hw (can_facts hc).1
 have hwl : w < S.next.length := by rw [h.nxl]; exact hw
 refine h.build w hw S' hn0 (by rw [e1, List.length_set]) (fun v hv => by rw [e1, getD_set _ _ hwl, if_neg hv]) e2 (by rcases e3 with ⟨e, _⟩ | ⟨e, _⟩ <;> rw [e]; rw [List.length_set]) (by omega) (by have := h.cnt; omega) ?_ ?_ (by rw [e6]; exact h.keys) (fun hh ha _ => untold_keep h e6 h3 hh ha) ?_
 ·intro v hv hne h1 h4
  refine ⟨fun hl => ?_, get_rows S' e6 _, told_rows S' e6 _⟩
  rcases e3 with ⟨e, _⟩ | ⟨e, hw4⟩
  ·rw [e]; exact hl
  ·rw [e, locks_set _ _ _ _ (h.apart hv hw hne h1 h4 hc hw4)]; exact hl
 ·intro hx
  refine ⟨by rw [e1, getD_set _ _ hwl, if_pos rfl]; omega, ?_, ?_, ?_, ?_, ?_, ?_⟩ <;> rw [hx] <;> simp [hn0]
 ·intro hh ha _ i hi
  rcases e3 with ⟨e, h5⟩ | ⟨e, hw4⟩
  ·rw [e]
   rcases h.held i hi with h0 | ⟨v, v1, v2, v3, v4, v5⟩
   ·exact .inl h0
   ·have hne : v ≠ w := fun e => by subst e; omega
    exact .inr ⟨v, v1, v2, by rw [hh v hne]; exact v3, by rw [hh v hne]; exact v4, by rw [ha v hne]; exact v5⟩
  ·rw [e]
   by_cases hi2 : i = K.of (S.ask K w).key
   ·subst hi2; exact .inl (locks_self _ _ _ (by rw [h.lkl]; exact HO _))
   ·rw [locks_set _ _ _ _ (Ne.symm hi2)]
    rcases h.held i hi with h0 | ⟨v, v1, v2, v3, v4, v5⟩
    ·exact .inl h0
    ·have hne : v ≠ w := fun e => by subst e; exact hi2 v5.symm
     exact .inr ⟨v, v1, v2, by rw [hh v hne]; exact v3, by rw [hh v hne]; exact v4, by rw [ha v hne]; exact v5⟩
theorem ShOk.moved (h : ShOk K S) {w : Nat} (hw : w < K.work.length) (hc : S.canN K w = true) (S' : Sh) (x : Hn) (e1 : S'.next = S.next) (e2 : S'.hands = S.hands.set w x) (hw4 : (S.hand w).at_ ≤ 4)
  (HO : ∀ k, K.of k < K.shards) (e3 : (S'.locks = S.locks ∧ 1 ≤ (S.hand w).at_ ∧ 1 ≤ x.at_ ∧ x.at_ ≤ 4) ∨ ∃ o, S'.locks = S.locks.set (K.of (S.ask K w).key) o ∧ (o = -1 ∨ o = (w : Int) ∧ 1 ≤ x.at_ ∧ x.at_ ≤ 4)) (e4 : S.calls.length ≤ S'.calls.length ∧ S'.calls.length ≤ S.calls.length + 1) (e5 : S'.steps = S.steps + 1)
  (e6 : S'.rows = S.rows ∧ (S.hand w).at_ ≠ 3 ∨ S'.rows = S.rows ++ [⟨(S.ask K w).key, (S.ask K w).value, false⟩] ∧ x.at_ = 3 ∧ S.get (S.ask K w).key = none ∨ S'.rows = S.rows.map (tellR (S.ask K w).key))
  (hs : S'.hand w = x → S'.ask K w = S.ask K w → S'.next.getD w 0 < (K.own w).length → WOk K S' w) : ShOk K S' := by
 have hnx := h.nx hw (can_facts hc).1
 have hask : ∀ v, S'.ask K v = S.ask K v := fun v => by unfold Sh.ask; rw [e1]
 refine h.build w hw S' x (by rw [e1]) (fun v _ => by rw [e1]) e2 (by rcases e3 with ⟨e, _⟩ | ⟨_, e, _⟩ <;> rw [e]; rw [List.length_set]) e4.1 (by have := h.cnt; omega) ?_ (fun hx => hs hx (hask w) (by rw [e1]; exact hnx)) ?_ ?_ ?_
 ·intro v hv hne h1 h4
  have hap := h.apart hv hw hne h1 h4 hc hw4
  have hkey : (S.ask K w).key ≠ (S.ask K v).key := fun e => hap (by rw [e])
  refine ⟨fun hl => ?_, ?_⟩
  ·rcases e3 with ⟨e, _⟩ | ⟨_, e, _⟩
   ·rw [e]; exact hl
   ·rw [e, locks_set _ _ _ _ hap]; exact hl
  ·rcases e6 with ⟨e, _⟩ | ⟨e, _⟩ | e
   ·exact ⟨get_rows S' e _, told_rows S' e _⟩
   ·exact ⟨by rw [get_app _ _ S' e, if_neg hkey]; simp, told_app _ _ S' e rfl⟩
   ·exact ⟨get_tell _ _ S' e, by rw [told_tell _ _ S' e, if_neg (Ne.symm hkey)]⟩
 ·rcases e6 with ⟨e, _⟩ | ⟨e, _, hn⟩ | e
  ·rw [e]; exact h.keys
  ·rw [e, List.map_append, List.nodup_append]
   refine ⟨h.keys, by simp, fun a ha b hb => ?_⟩
   simp at hb
   subst hb
   rintro rfl
   exact get_none_key hn ha
  ·rw [e, List.map_map]
   have : (Rw.key ∘ tellR (S.ask K w).key) = Rw.key := funext fun r => tellR_key _ r
   rw [this]; exact h.keys
 ·intro hh ha hx
  rcases e6 with ⟨e, h3⟩ | ⟨e, hx3, _⟩ | e
  ·exact untold_keep h e h3 hh ha
  ·intro r hm ht
   rw [e] at hm
   rcases List.mem_append.1 hm with hm | hm
   ·obtain ⟨v, v1, v2, v3⟩ := h.untold r hm ht
    by_cases hne : v = w
    ·subst hne; exact ⟨v, v1, by rw [hx]; exact hx3, by rw [hask]; exact v3⟩
    ·exact ⟨v, v1, by rw [hh v hne]; exact v2, by rw [hask]; exact v3⟩
   ·simp at hm
    subst hm
    exact ⟨w, hw, by rw [hx]; exact hx3, by rw [hask]⟩
  ·intro r hm ht
   rw [e] at hm
   obtain ⟨q, hq, rfl⟩ := List.mem_map.1 hm
   have hqk : q.key ≠ (S.ask K w).key := fun e => by unfold tellR at ht; rw [if_pos e] at ht; cases ht
   have hqt : q.told = false := by unfold tellR at ht; rw [if_neg hqk] at ht; exact ht
   obtain ⟨v, v1, v2, v3⟩ := h.untold q hq hqt
   have hne : v ≠ w := fun e => by subst e; exact hqk v3.symm
   exact ⟨v, v1, by rw [hh v hne]; exact v2, by rw [hask, tellR_key]; exact v3⟩
 ·intro hh ha hx i hi
  rcases e3 with ⟨e, h1, h2, h4⟩ | ⟨o, e, ho⟩
  ·rw [e]
   rcases h.held i hi with h0 | ⟨v, v1, v2, v3, v4, v5⟩
   ·exact .inl h0
   ·by_cases hne : v = w
    ·subst hne; exact .inr ⟨v, v1, v2, by rw [hx]; exact h2, by rw [hx]; exact h4, by rw [hask]; exact v5⟩
    ·exact .inr ⟨v, v1, v2, by rw [hh v hne]; exact v3, by rw [hh v hne]; exact v4, by rw [hask]; exact v5⟩
  ·rw [e]
   by_cases hi2 : i = K.of (S.ask K w).key
   ·subst hi2
    rw [locks_self _ _ _ (by rw [h.lkl]; exact HO _)]
    rcases ho with rfl | ⟨rfl, h2, h4⟩
    ·exact .inl rfl
    ·exact .inr ⟨w, hw, rfl, by rw [hx]; exact h2, by rw [hx]; exact h4, by rw [hask]⟩
   ·rw [locks_set _ _ _ _ (Ne.symm hi2)]
    rcases h.held i hi with h0 | ⟨v, v1, v2, v3, v4, v5⟩
    ·exact .inl h0
    ·have hne : v ≠ w := fun e => by subst e; exact hi2 v5.symm
     exact .inr ⟨v, v1, v2, by rw [hh v hne]; exact v3, by rw [hh v hne]; exact v4, by rw [ha v hne]; exact v5⟩
theorem ShOk.free (HO : ∀ k, K.of k < K.shards) (h : ShOk K S) {w : Nat} (hc : S.canN K w = true) (h0 : (S.hand w).at_ = 0) : S.locks.getD (K.of (S.ask K w).key) (-1) = -1 := by
 rcases h.held _ (HO (S.ask K w).key) with e | ⟨v, v1, v2, v3, v4, v5⟩
 ·exact e
 ·exfalso
  obtain ⟨hd, hwt⟩ := can_facts hc
  unfold Sh.waitsN at hwt
  rw [if_neg (by rw [hd]; simp)] at hwt
  rw [h0] at hwt
  have el : S.lockOf K w = v := v2
  rw [el] at hwt
  simp at hwt
  have hvw : v = w := by omega
  subst hvw
  omega
theorem ShOk.step (HO : ∀ k, K.of k < K.shards) (h : ShOk K S) (w : Nat) (hw : w < K.work.length) : ShOk K (S.stepN K w) := by
 unfold Sh.stepN
 cases hc : S.canN K w with
 | false => rw [if_neg (by simp)]; exact h
 | true =>
  rw [if_pos rfl]
  have H := h.each w hw
  have hnx := h.nx hw (can_facts hc).1
  have h5 : (S.hand w).at_ ≤ 5 := by
   by_cases h0 : (S.hand w).at_ = 0
   ·omega
   ·exact (H.inh h0).2.2
  have hlk : K.of (S.ask K w).key < S.locks.length := by rw [h.lkl]; exact HO _
  have hcall : (S.hand w).at_ ≠ 0 → (S.hand w).call < S.calls.length := fun h0 => (H.inh h0).2.1
  unfold Sh.body
  dsimp only
  rcases (show (S.hand w).at_ = 0 ∨ (S.hand w).at_ = 1 ∨ (S.hand w).at_ = 2 ∨ (S.hand w).at_ = 3 ∨ (S.hand w).at_ = 4 ∨ (S.hand w).at_ = 5 by omega) with e | e | e | e | e | e <;> simp only [e]
  ·refine h.moved hw hc _ ⟨1, false, S.calls.length⟩ rfl rfl (by omega) HO (.inr ⟨(w : Int), rfl, .inr ⟨rfl, by simp, by simp⟩⟩) (by simp [Sh.setH, Sh.setL]) rfl (.inl ⟨rfl, by omega⟩) ?_
   intro hx ha hn
   refine ⟨by omega, ?_, ?_, ?_, ?_, ?_, ?_⟩ <;> rw [hx] <;> try simp
   ·exact ⟨hn, by simp [Sh.setH, Sh.setL]⟩
   ·unfold Sh.lockOf; rw [ha]; exact locks_self _ _ _ hlk
  ·refine h.moved hw hc _ ⟨if (S.ask K w).kind = 1 ∧ S.get (S.ask K w).key = none then 2 else 4, (S.get (S.ask K w).key).isSome, (S.hand w).call⟩ rfl rfl (by omega) HO (.inl ⟨rfl, by omega, by dsimp only; split <;> omega, by dsimp only; split <;> omega⟩) (by simp [Sh.setH]) rfl (.inl ⟨rfl, by omega⟩) ?_
   intro hx ha hn
   have hl := H.lock (by omega) (by omega)
   have hg : ∀ k, ({ (S.setH w ⟨if (S.ask K w).kind = 1 ∧ S.get (S.ask K w).key = none then 2 else 4, (S.get (S.ask K w).key).isSome, (S.hand w).call⟩ : Sh) with steps := S.steps + 1 } : Sh).get k = S.get k := fun k => get_rows _ rfl k
   by_cases hp : (S.ask K w).kind = 1 ∧ S.get (S.ask K w).key = none
   ·rw [if_pos hp] at hx hg ha hn ⊢
    refine ⟨by omega, ?_, ?_, ?_, ?_, ?_, ?_⟩ <;> rw [hx] <;> try simp
    ·exact ⟨hn, hcall (by omega)⟩
    ·unfold Sh.lockOf; rw [ha]; exact hl
    ·rw [ha, hg]; exact ⟨hp.1, hp.2, hp.2⟩
   ·rw [if_neg hp] at hx hg ha hn ⊢
    refine ⟨by omega, ?_, ?_, ?_, ?_, ?_, ?_⟩ <;> rw [hx] <;> try simp
    ·exact ⟨hn, hcall (by omega)⟩
    ·unfold Sh.lockOf; rw [ha]; exact hl
    ·rw [ha, hg]
     refine ⟨fun h1 h2 => (by rw [h2] at h1; cases h1), fun h1 _ => h1, fun h1 h2 => absurd ⟨h2, h1⟩ hp⟩
  ·obtain ⟨t1, t2, t3⟩ := H.two e
   refine h.moved hw hc _ { S.hand w with at_ := 3 } rfl rfl (by omega) HO (.inl ⟨rfl, by omega, by simp, by simp⟩) (by simp [Sh.setH]) rfl (.inr (.inl ⟨rfl, rfl, t2⟩)) ?_
   intro hx ha hn
   have hl := H.lock (by omega) (by omega)
   refine ⟨by omega, ?_, ?_, ?_, ?_, ?_, ?_⟩ <;> rw [hx] <;> try simp
   ·exact ⟨hn, hcall (by omega)⟩
   ·unfold Sh.lockOf; rw [ha]; exact hl
   ·rw [ha]
    refine ⟨t1, ?_, t3, ?_⟩
    ·rw [get_app (S := S) ⟨(S.ask K w).key, (S.ask K w).value, false⟩ _ _ rfl, t2]; simp
    ·rw [told_app (S := S) ⟨(S.ask K w).key, (S.ask K w).value, false⟩ _ _ rfl rfl]
     unfold Sh.toldN
     unfold Sh.get at t2
     cases hr : rowAt S.rows (S.ask K w).key with
     | none => rfl
     | some r => rw [hr] at t2; cases t2
  ·obtain ⟨t1, t2, t3, t4⟩ := H.three e
   refine h.moved hw hc _ { S.hand w with at_ := 4 } rfl rfl (by omega) HO (.inl ⟨rfl, by omega, by simp, by simp⟩) (by simp [Sh.setH]) rfl (.inr (.inr rfl)) ?_
   intro hx ha hn
   have hl := H.lock (by omega) (by omega)
   refine ⟨by omega, ?_, ?_, ?_, ?_, ?_, ?_⟩ <;> rw [hx] <;> try simp
   ·exact ⟨hn, hcall (by omega)⟩
   ·unfold Sh.lockOf; rw [ha]; exact hl
   ·rw [ha, get_tell (S := S) (S.ask K w).key _ _ rfl, t2]
    exact ⟨fun _ h => (by cases h), fun _ h => absurd t1 h, fun _ _ => rfl⟩
  ·have hl := H.lock (by omega) (by omega)
   split
   ·next n er heq =>
    exact h.ended hw hc (by omega) _ rfl rfl (.inr ⟨rfl, by omega⟩) HO (by simp [Sh.endN, Sh.setL]) rfl rfl
   ·next heq =>
    refine h.moved hw hc _ { S.hand w with at_ := 5 } rfl rfl (by omega) HO (.inr ⟨-1, rfl, .inl rfl⟩) (by simp [Sh.setH, Sh.setL]) rfl (.inl ⟨rfl, by omega⟩) ?_
    intro hx ha hn
    refine ⟨by omega, ?_, ?_, ?_, ?_, ?_, ?_⟩ <;> rw [hx] <;> try simp
    ·exact ⟨hn, hcall (by omega)⟩
    ·rw [ha]
     unfold endOf2 at heq
     refine ⟨fun h1 => ?_, fun h1 => ?_⟩
     ·rw [if_pos h1] at heq; cases heq
     ·rw [if_neg (by omega)] at heq
      split at heq
      ·cases heq
      ·first | (cases heq; done) | (rw [if_pos h1] at heq; cases heq)
  ·exact h.ended hw hc (by omega) _ rfl rfl (.inl ⟨rfl, e⟩) HO (by simp [Sh.endN]) rfl rfl
end
end Go.Proofs.YtabkmdhkfbcldaaGreat
namespace Go.Proofs.YtabkmdhkfbcldaaGreat
open Go.RowKit
variable {W W' : World} {base t : Nat} {K : Wk} {S : Sh} {B : TB}
structure TOk (W : World) (base t : Nat) (K : Wk) (S : Sh) (B : TB) : Prop where
 is : TabIs W base t K S B
 ok : ShOk K S
 pr : ∀ w, B.pr w = true → w < K.work.length ∧ (S.hand w).at_ ≠ 0
 hv : ∀ w, B.pr w = true → (S.hand w).at_ = 4 → (S.hand w).found = true → S.get (S.ask K w).key = some (B.hv w)
def TStep (W : World) (base t : Nat) (K : Wk) (B : TB) (S' : Sh) (e : Ending) (w' : World) : Prop :=
 e = .returned (.tuple #[]) ∧ ∃ B', TOk w' base t K S' B' ∧ (∀ b, B'.fp K t b → B.fp K t b ∨ W.heap.size ≤ b) ∧ But (B.fp K t) W w' ∧ Below base W w'
theorem step_hand (w : Nat) (hw : w < S.hands.length) (v : Nat) (hv : v ≠ w) : (S.stepN K w).hand v = S.hand v := by
 unfold Sh.stepN
 split
 ·have key : ∀ x, ({ hands := S.hands.set w x, locks := [], rows := [], next := [], calls := [], steps := 0 } : Sh).hand v = S.hand v := fun x => by
   show (S.hands.set w x).getD v hn0 = S.hands.getD v hn0
   rw [getD_set _ _ hw, if_neg hv]
  unfold Sh.body
  dsimp only
  split
  ·exact key _
  ·exact key _
  ·exact key _
  ·exact key _
  ·split
   ·exact key _
   ·exact key _
  ·exact key _
 ·rfl
theorem step_next (w : Nat) (hw : w < S.next.length) (v : Nat) (hv : v ≠ w) : (S.stepN K w).next.getD v 0 = S.next.getD v 0 := by
 unfold Sh.stepN
 split
 ·have key : ∀ x, (S.next.set w x).getD v 0 = S.next.getD v 0 := fun x => by rw [getD_set _ _ hw, if_neg hv]
  unfold Sh.body
  dsimp only
  split
  ·rfl
  ·rfl
  ·rfl
  ·rfl
  ·split
   ·exact key _
   ·rfl
  ·exact key _
 ·rfl
theorem step_ask (w : Nat) (hw : w < S.next.length) (v : Nat) (hv : v ≠ w) : (S.stepN K w).ask K v = S.ask K v := by
 unfold Sh.ask; rw [step_next w hw v hv]
theorem step_get (w : Nat) (k : ByteArray) (x : Int) (h : S.get k = some x) : (S.stepN K w).get k = some x := by
 unfold Sh.stepN
 split
 ·unfold Sh.body
  dsimp only
  split
  ·exact h
  ·exact h
  ·rw [get_app (S := S) ⟨(S.ask K w).key, (S.ask K w).value, false⟩ _ _ rfl, h]; rfl
  ·rw [get_tell (S := S) (S.ask K w).key _ _ rfl, h]
  ·split
   ·exact h
   ·exact h
  ·exact h
 ·exact h
theorem step_not {w : Nat} (h : S.canN K w = false) : S.stepN K w = S := by unfold Sh.stepN; rw [h]; rfl
theorem step_is {w : Nat} (h : S.canN K w = true) : S.stepN K w = { S.body K w with steps := S.steps + 1 } := by unfold Sh.stepN; rw [h]; rfl
theorem wr_fp {b : Nat} (h : B.wr t b) : B.fp K t b := .inl (TabIs.wr_mine h)
theorem TStep.goes (HO : ∀ k, K.of k < K.shards) (H : TOk W base t K S B) {k : Nat} (hk : k < K.work.length) {w' : World} {B' : TB} (hpr : ∀ w, B'.pr w = B.pr w ∨ w = k) (hkk : B'.pr k = true → (S.stepN K k).hand k ≠ hn0 → ((S.stepN K k).hand k).at_ ≠ 0)
  (hk0 : B'.pr k = true → (S.stepN K k).hand k ≠ hn0)
  (hhv : ∀ w, w ≠ k → B'.hv w = B.hv w)
  (hself : B'.pr k = true → ((S.stepN K k).hand k).at_ = 4 → ((S.stepN K k).hand k).found = true → (S.stepN K k).get ((S.stepN K k).ask K k).key = some (B'.hv k))
  (hT : TabIs w' base t K (S.stepN K k) B') (hfp : ∀ b, B'.fp K t b → B.fp K t b ∨ W.heap.size ≤ b) (hb : But (B.fp K t) W w') (hbel : Below base W w') : TStep W base t K B (S.stepN K k) (.returned (.tuple #[])) w' := by
 have hkl : k < S.hands.length := by rw [H.ok.hnl]; exact hk
 have hkn : k < S.next.length := by rw [H.ok.nxl]; exact hk
 refine ⟨rfl, B', ⟨hT, H.ok.step HO k hk, fun w hw => ?_, fun w hw h4 hf => ?_⟩, hfp, hb, hbel⟩
 ·by_cases e : w = k
  ·subst e; exact ⟨hk, hkk hw (hk0 hw)⟩
  ·have hw' : B.pr w = true := by rcases hpr w with h | h; exact h ▸ hw; exact absurd h e
   rw [step_hand k hkl w e]
   exact H.pr w hw'
 ·by_cases e : w = k
  ·subst e; exact hself hw h4 hf
  ·have hw' : B.pr w = true := by rcases hpr w with h | h; exact h ▸ hw; exact absurd h e
   rw [step_hand k hkl w e] at h4 hf
   rw [step_ask k hkn w e, hhv w e]
   exact step_get k _ _ (H.hv w hw' h4 hf)
theorem TStep.poked (HO : ∀ k, K.of k < K.shards) (H : TOk W base t K S B) {k : Nat} (hk : k < K.work.length) (hp : B.pr k = true) {wc w' : World} (hbc : Below W.heap.size W wc)
  (x : Hn) (v : Int) (rows : List Rw) (vm : List (ByteArray × Int)) (tm : List (ByteArray × Bool)) (hS : S.stepN K k = S.poke k x rows (S.steps + 1)) (hx : x.at_ ≠ 0)
  (hv : x.at_ = 4 → x.found = true → (S.stepN K k).get (S.ask K k).key = some v)
  (hb : But (fun b => b = t ∨ b = B.hb k ∨ b = B.bv ∨ b = B.bt) wc w') (hbel : Below base wc w')
  (head : w'.heap[t]? = some (tabO B K (S.steps + 1))) (hand : w'.heap[B.hb k]? = some (handO x v))
  (vals : MapIs Value.string (Value.int .i64) w' B.bv vm) (valIs : ∀ key, alook vm key = (rowAt rows key).map Rw.val)
  (told : MapIs Value.string Value.bool w' B.bt tm) (toldIs : ∀ key, (alook tm key).getD false = match rowAt rows key with | some r => r.told | none => false) :
  TStep W base t K B (S.stepN K k) (.returned (.tuple #[])) w' := by
 have hkl : k < S.hands.length := by rw [H.ok.hnl]; exact hk
 have hbs : base ≤ W.heap.size := by have := (H.is.ap t (.inl rfl)).2; omega
 have hT := (H.is.below hbc).poked k hk hp x v (S.steps + 1) rows vm tm hb head hand vals valIs told toldIs
 have hhk : (S.stepN K k).hand k = x := by rw [hS]; exact (setH_hand S k hkl x k).trans (if_pos rfl)
 have hak : (S.stepN K k).ask K k = S.ask K k := by rw [hS]; rfl
 refine TStep.goes HO H hk (B' := B.poke k v vm tm) (fun w => .inl rfl) (fun _ _ => by rw [hhk]; exact hx) (fun _ => by rw [hhk]; intro e; rw [e] at hx; exact hx rfl) (fun w hw => ?_) (fun _ h4 hf => ?_) (by rw [hS]; exact hT) (fun b hbf => .inl hbf) (But.below hbc (hb.mono ?_)) ((hbc.mono hbs).trans hbel)
 ·show (if w = k then v else B.hv w) = B.hv w
  rw [if_neg hw]
 ·rw [hhk] at h4 hf
  rw [hak, hv h4 hf]
  show some v = some (if k = k then v else B.hv k)
  rw [if_pos rfl]
 ·rintro b (e | e | e | e)
  ·exact wr_fp (.inl e)
  ·exact wr_fp (.inr (.inr (.inr (.inr (.inr (.inr ⟨k, hp, e.symm⟩))))))
  ·exact wr_fp (.inr (.inr (.inl e)))
  ·exact wr_fp (.inr (.inr (.inr (.inl e))))
theorem poke_self (B : TB) (k : Nat) : B.poke k (B.hv k) B.vm B.tm = B := by
 have e : (fun w => if w = k then B.hv k else B.hv w) = B.hv := funext fun w => by
  by_cases h : w = k
  ·rw [if_pos h, h]
  ·rw [if_neg h]
 unfold TB.poke
 rw [e]
theorem pokeS_self (S : Sh) (k : Nat) (hk : k < S.hands.length) (n : Nat) : S.poke k (S.hand k) S.rows n = { S with steps := n } := by
 have e : S.hands.set k (S.hand k) = S.hands := by
  apply List.ext_getElem (by simp)
  intro i h1 h2
  rw [List.getElem_set]
  by_cases h : k = i
  ·subst h; simp [Sh.hand, List.getD_eq_getElem?_getD, hk]
  ·rw [if_neg h]
 unfold Sh.poke
 rw [e]
theorem endB_fp {k b : Nat} (h : (B.endB k).fp K t b) : B.fp K t b := by
 rcases h with h | h
 ·refine .inl ?_
  rcases h with e | e | e | e | e | e | e | e | ⟨w, hw, e⟩
  ·exact .inl e
  ·exact .inr (.inl e)
  ·exact .inr (.inr (.inl e))
  ·exact .inr (.inr (.inr (.inl e)))
  ·exact .inr (.inr (.inr (.inr (.inl e))))
  ·exact .inr (.inr (.inr (.inr (.inr (.inl e)))))
  ·exact .inr (.inr (.inr (.inr (.inr (.inr (.inl e))))))
  ·exact .inr (.inr (.inr (.inr (.inr (.inr (.inr (.inl e)))))))
  ·have hw : (if w = k then false else B.pr w) = true := hw
   by_cases h : w = k
   ·rw [if_pos h] at hw; cases hw
   ·rw [if_neg h] at hw
    exact .inr (.inr (.inr (.inr (.inr (.inr (.inr (.inr ⟨w, hw, e⟩)))))))
 ·exact .inr h
theorem TStep.ends (HO : ∀ k, K.of k < K.shards) (H : TOk W base t K S B) {k : Nat} (hk : k < K.work.length) {w' : World} {B1 : TB} (h1 : B1.pr = B.pr) (h2 : B1.hv = B.hv)
  (hT : TabIs w' base t K (S.stepN K k) (B1.endB k)) (hfp : ∀ b, B1.fp K t b → B.fp K t b ∨ W.heap.size ≤ b) (hb : But (B.fp K t) W w') (hbel : Below base W w') : TStep W base t K B (S.stepN K k) (.returned (.tuple #[])) w' := by
 have hno : ¬ (B1.endB k).pr k = true := by
  show ¬ (if k = k then false else B1.pr k) = true
  rw [if_pos rfl]; simp
 refine TStep.goes HO H hk (B' := B1.endB k) (fun w => ?_) (fun e => absurd e hno) (fun e => absurd e hno) (fun w _ => ?_) (fun e => absurd e hno) hT (fun b hbf => hfp b (endB_fp hbf)) hb hbel
 ·show (if w = k then false else B1.pr w) = B.pr w ∨ w = k
  rw [h1]
  by_cases e : w = k
  ·exact .inr e
  ·rw [if_neg e]; exact .inl rfl
 ·show B1.hv w = B.hv w
  rw [h2]
end Go.Proofs.YtabkmdhkfbcldaaGreat
