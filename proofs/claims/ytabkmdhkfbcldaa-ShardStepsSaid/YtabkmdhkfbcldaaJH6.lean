/-
  What lies where when a hand, the count of steps or a map is written, and when the lock is turned.
  unlocked: the walk.
  The table in plain words: what holds of it from its making on.
  Step of the code's table: what a step tells.
  Step: the walk, state 1.
-/
import Derived.Test.YtabkmdhkfbcldaaJH5
import Derived.Test.YtabkmdhkfbcldaaJH1
namespace Go.Proofs.Ytabkmdhkfbcldaa
open Go.RowKit

variable {W W' : World} {base t : Nat} {K : Wk} {S : Sh} {B : TB}
def TB.poke (B : TB) (k : Nat) (v : Int) (vm : List (ByteArray × Int)) (tm : List (ByteArray × Bool)) : TB := { B with vm := vm, tm := tm, hv := fun w => if w = k then v else B.hv w }
def Sh.poke (S : Sh) (k : Nat) (x : Hn) (rows : List Rw) (steps : Nat) : Sh := { S with rows := rows, hands := S.hands.set k x, steps := steps }
def tabO (B : TB) (K : Wk) (steps : Nat) : Obj := .cells #[.pointer (some ⟨B.m, 0, none⟩), .int .i64 K.shards, B.vw, B.va, .map (some B.bh), .map (some B.bv), .map (some B.bt), B.vp, .int .i64 steps] 66 (0, 0)
def handO (x : Hn) (v : Int) : Obj := .cells #[.int .i64 (x.call : Nat), .int .i64 (x.at_ : Nat), .bool x.found, .int .i64 v] 107 (0, 0)
theorem TabIs.poked (h : TabIs W base t K S B) (k : Nat) (hk : k < K.work.length) (hp : B.pr k = true) (x : Hn) (v : Int) (steps : Nat) (rows : List Rw) (vm : List (ByteArray × Int)) (tm : List (ByteArray × Bool))
    (hb : But (fun b => b = t ∨ b = B.hb k ∨ b = B.bv ∨ b = B.bt) W W')
    (head : W'.heap[t]? = some (tabO B K steps)) (hand : W'.heap[B.hb k]? = some (handO x v))
    (vals : MapIs Value.string (Value.int .i64) W' B.bv vm) (valIs : ∀ key, alook vm key = (rowAt rows key).map Rw.val)
    (told : MapIs Value.string Value.bool W' B.bt tm) (toldIs : ∀ key, (alook tm key).getD false = match rowAt rows key with | some r => r.told | none => false) :
    TabIs W' base t K (S.poke k x rows steps) (B.poke k v vm tm) := by
  have hX : ∀ b, (b = t ∨ b = B.hb k ∨ b = B.bv ∨ b = B.bt) → B.wr t b := fun b hx => by
    rcases hx with e | e | e | e
    · exact .inl e
    · exact .inr (.inr (.inr (.inr (.inr (.inr ⟨k, hp, e.symm⟩)))))
    · exact .inr (.inr (.inl e))
    · exact .inr (.inr (.inr (.inl e)))
  obtain ⟨k1, k2, k3⟩ := h.kept (W' := W') ⟨fun b hl hn => hb.keep b hl (fun hx => hn (hX b hx)), hb.size⟩
  have hkl : k < S.hands.length := by rw [h.hnl]; exact hk
  have cellsNe : ∀ {b T : Nat}, tagAt W b = some (T + 1) → T ≠ 66 → T ≠ 107 → ¬ (b = t ∨ b = B.hb k ∨ b = B.bv ∨ b = B.bt) := fun hb0 n1 n2 => by
    rintro (e | e | e | e)
    · exact tag_ne hb0 h.tagT (by omega) e
    · exact tag_ne hb0 (h.tagHand k hp) (by omega) e
    · exact tag_ne hb0 (map_tag h.vals) (by omega) e
    · exact tag_ne hb0 (map_tag h.told) (by omega) e
  refine ⟨head, k1, h.lm, k2, k3, ?_, ?_, ?_, ?_, vals, valIs, told, toldIs, ?_, h.wsl, h.nxl, ?_, h.lkl, h.mp, h.hi, ?_, h.nxt, h.hnd⟩
  · exact own_but h.ats hb (fun g hg => cellsNe (own_tag h.ats hg) (by decide) (by decide))
  · refine h.hands.but hb ?_
    rintro (e | e | e | e)
    · exact tag_ne (map_tag h.hands) h.tagT (by decide) e
    · exact tag_ne (map_tag h.hands) (h.tagHand k hp) (by decide) e
    · exact h.mp.1 e
    · exact h.mp.2.1 e
  · intro w hw
    refine ⟨(h.free w hw).1, ?_⟩
    have e : w ≠ k := fun e => by subst e; exact absurd (hp.symm.trans hw) (by simp)
    show ((S.setH k x).hand w).at_ = 0
    rw [setH_hand S k hkl, if_neg e]
    exact (h.free w hw).2
  · intro w hw
    refine ⟨(h.hand w hw).1, ?_⟩
    show W'.heap[B.hb w]? = some (.cells #[.int .i64 (((S.setH k x).hand w).call : Nat), .int .i64 (((S.setH k x).hand w).at_ : Nat), .bool ((S.setH k x).hand w).found, .int .i64 (if w = k then v else B.hv w)] 107 (0, 0))
    rw [setH_hand S k hkl]
    by_cases e : w = k
    · subst e
      rw [if_pos rfl, if_pos rfl]
      exact hand
    · rw [if_neg e, if_neg e]
      refine (hb.keep _ (Array.getElem?_eq_some_iff.1 (h.hand w hw).2).1 ?_).trans (h.hand w hw).2
      rintro (e2 | e2 | e2 | e2)
      · exact tag_ne (h.tagHand w hw) h.tagT (by decide) e2
      · exact e (h.hi w k hw hp e2)
      · exact tag_ne (h.tagHand w hw) (map_tag h.vals) (by decide) e2
      · exact tag_ne (h.tagHand w hw) (map_tag h.told) (by decide) e2
  · exact own_but h.past hb (fun g hg => cellsNe (own_tag h.past hg) (by decide) (by decide))
  · show (S.hands.set k x).length = _
    rw [List.length_set]; exact h.hnl
  · intro b hm
    have := h.ap b hm
    exact ⟨this.1, this.2.1, Nat.lt_of_lt_of_le this.2.2 hb.size⟩
/-- The lock is turned. -/
theorem TabIs.locked (h : TabIs W base t K S B) (lm : Mem) (fm : Nat → Prop) (locks : List Int) (hb : Turn B.fm W W') (hm : MMach W' base B.m hdM lm fm) (hl : lm.cs = locks.map lockCe) (hfm : ∀ b, fm b → B.fm b ∨ W.heap.size ≤ b)
    (hll : locks.length = K.shards) : TabIs W' base t K { S with locks := locks } { B with lm := lm, fm := fm } := by
  have kp : ∀ b, B.mine K t b → W'.heap[b]? = W.heap[b]? := fun b hm => hb.block b (h.ap b hm).2.2 (h.ap b hm).1
  have m0 : B.mine K t t := .inl rfl
  have m1 : B.mine K t B.bh := .inr (.inl rfl)
  have m2 : B.mine K t B.bv := .inr (.inr (.inl rfl))
  have m3 : B.mine K t B.bt := .inr (.inr (.inr (.inl rfl)))
  have mapk : ∀ {κ β : Type} {mk : κ → Value} {mv : β → Value} {b : Nat} {m : List (κ × β)}, MapIs mk mv W b m → B.mine K t b → MapIs mk mv W' b m := fun hM hmi => by
    obtain ⟨es, c, he, F⟩ := hM
    exact ⟨es, c, (kp _ hmi).trans he, F⟩
  refine ⟨(kp t m0).trans h.head, hm, hl, own_blk h.work (fun g hg => kp g (.inr (.inr (.inr (.inr (.inl hg)))))), fun w hw => own_blk (h.asks w hw) (fun g hg => kp g (.inr (.inr (.inr (.inr (.inr (.inr (.inr (.inl ⟨w, hw, hg⟩)))))))))
    , own_blk h.ats (fun g hg => kp g (.inr (.inr (.inr (.inr (.inr (.inl hg))))))), mapk h.hands m1, h.free, fun w hw => ⟨(h.hand w hw).1, (kp _ (.inr (.inr (.inr (.inr (.inr (.inr (.inr (.inr ⟨w, hw, rfl⟩))))))))).trans (h.hand w hw).2⟩
    , mapk h.vals m2, h.valIs, mapk h.told m3, h.toldIs, own_blk h.past (fun g hg => kp g (.inr (.inr (.inr (.inr (.inr (.inr (.inl hg)))))))), h.wsl, h.nxl, h.hnl, hll, h.mp, h.hi, fun b hmi => ?_, h.nxt, h.hnd⟩
  obtain ⟨a1, a2, a3⟩ := h.ap b hmi
  refine ⟨fun hf => ?_, a2, Nat.lt_of_lt_of_le a3 hb.size⟩
  rcases hfm b hf with e | e
  · exact a1 e
  · omega
/-- A worker locks its shard. -/
theorem TabIs.doLock (h : TabIs W base t K S B) (i : Nat) (hi : i < K.shards) (k : Nat) (hk : k < 64) (hf : S.locks.getD i (-1) = -1) : (B.lm.step (k : Int) ⟨3, (i : Nat), 0, 0⟩).cs = (S.locks.set i (k : Int)).map lockCe := by
  unfold Mem.step
  rw [h.look i hi (k : Int) 3 (by unfold isW; simp; omega), hf]
  have e : stepP (lockCe (-1)) (k : Int) ⟨3, (i : Nat), 0, 0⟩ = (lockCe k, 0, 0) := by
    have : ¬ ((-1 : Int) = k) := by omega
    simp [stepP, lockCe, this]
  rw [e, if_pos rfl, h.lm]
  show (S.locks.map lockCe).set (Int.toNat ((i : Nat) : Int)) (lockCe k) = _
  rw [Int.toNat_natCast, List.map_set]
theorem TabIs.doUnlock (h : TabIs W base t K S B) (i : Nat) (hi : i < K.shards) (k : Nat) (hk : k < 64) (hf : S.locks.getD i (-1) = k) : (B.lm.step (k : Int) ⟨4, (i : Nat), 0, 0⟩).cs = (S.locks.set i (-1)).map lockCe := by
  unfold Mem.step
  rw [h.look i hi (k : Int) 4 (by unfold isW; simp; omega), hf]
  have e : stepP (lockCe k) (k : Int) ⟨4, (i : Nat), 0, 0⟩ = (lockCe (-1), 0, 0) := by
    simp [stepP, lockCe]
  rw [e, if_pos rfl, h.lm]
  show (S.locks.map lockCe).set (Int.toNat ((i : Nat) : Int)) (lockCe (-1)) = _
  rw [Int.toNat_natCast, List.map_set]
/-- The blocks of a table. -/
def TB.fp (B : TB) (K : Wk) (t b : Nat) : Prop := B.mine K t b ∨ B.fm b
end Go.Proofs.Ytabkmdhkfbcldaa
namespace Go.Proofs.Ytabkmdhkfbcldaa
open Go.RowKit

variable {W W' : World} {base t : Nat} {K : Wk} {S : Sh} {B : TB}
theorem But.below {X : Nat → Prop} {w1 : World} (h1 : Below W.heap.size W w1) (h2 : But X w1 W') : But X W W' :=
  ⟨fun b hl hx => (h2.keep b (Nat.lt_of_lt_of_le hl h1.size) hx).trans (h1.block b hl), Nat.le_trans h1.size h2.size⟩
theorem But.mono {X Y : Nat → Prop} (h : But X W W') (hx : ∀ b, X b → Y b) : But Y W W' := ⟨fun b hl hn => h.keep b hl (fun e => hn (hx b e)), h.size⟩
def endV (a : Ak) (found : Bool) (v : Int) : Option (Int × Int) :=
  if a.kind = 1 then some (0, if found then 5 else 0)
  else if found then some (v, 0)
  else if a.kind = 2 then some (0, 4)
  else none
def UnTell (W : World) (base t : Nat) (K : Wk) (S : Sh) (B : TB) (k : Nat) (r : Option (Int × Int)) (e : Ending) (w' : World) : Prop :=
  e = .returned (.tuple #[]) ∧ (match r with
    | some (n, er) => TabIs w' base t K (S.endC k n er) (B.endB k)
    | none => TabIs w' base t K (S.poke k ⟨5, (S.hand k).found, (S.hand k).call⟩ S.rows S.steps) (B.poke k (B.hv k) B.vm B.tm)) ∧ But (B.wr t) W w' ∧ Below base W w'
theorem end_wr (b : Nat) (hx : b = B.bh ∨ B.vp.ownBlock = some b ∨ B.va.ownBlock = some b) : B.wr t b := by
  rcases hx with e | e | e
  · exact .inr (.inl e)
  · exact .inr (.inr (.inr (.inr (.inr (.inl e)))))
  · exact .inr (.inr (.inr (.inr (.inl e))))
theorem UnTell.of_end {w1 w' : World} {k : Nat} {n er : Int} (hb : Below W.heap.size W w1) (hbase : base ≤ W.heap.size) (h : EndTell w1 base t K S B k n er (.returned (.tuple #[])) w') : UnTell W base t K S B k (some (n, er)) (.returned (.tuple #[])) w' :=
  ⟨rfl, h.2.1, But.below hb (h.2.2.1.mono end_wr), (hb.mono hbase).trans h.2.2.2⟩
theorem UnTell.alloc {k : Nat} (h : UnTell W base t K S B k none (.returned (.tuple #[])) W') (o : Obj) (hbase : base ≤ W.heap.size) : UnTell W base t K S B k none (.returned (.tuple #[])) (W'.alloc o) :=
  ⟨rfl, h.2.1.below ((Below.refl _ _).alloc (Nat.le_refl _) _), ⟨fun b hl hx => (Below.heap_alloc _ _ _ (Nat.lt_of_lt_of_le hl h.2.2.1.size)).trans (h.2.2.1.keep b hl hx), by have := h.2.2.1.size; simp; omega⟩, h.2.2.2.alloc (by have := h.2.2.1.size; omega) _⟩
set_option maxRecDepth 20000 in
set_option maxHeartbeats 2000000 in
theorem unlocked_any (h : TabIs W base t K S B) (k : Nat) (hk : k < K.work.length) (hp : B.pr k = true) (hn : S.next.getD k 0 < (K.own k).length) (hc : (S.hand k).call < S.calls.length) (hsz : (K.own k).length ≤ 1000000) :
    Calls Try.prog 53 #[.pointer (some ⟨t, 0, none⟩), .int .i64 (k : Nat), .pointer (some ⟨B.hb k, 0, none⟩)] W (UnTell W base t K S B k (endV (S.ask K k) (S.hand k).found (B.hv k))) := by
  have HT := hid h
  have HBS : Hid (base ≤ W.heap.size) := by have := (h.ap t (.inl rfl)).2; unfold Hid; omega
  have HA := hid (ask_any h k hk hn)
  have HE := hid (fun (w1 : World) (hb : Below W.heap.size W w1) (n er : Int) => ends_any (h.below hb) k hk hp hn hc hsz n er)
  have hH := (h.hand k hp).2
  have hlt : B.hb k < W.heap.size := (Array.getElem?_eq_some_iff.1 hH).1
  have q1 := cell_of_row _ _ 1 _ _ _ hH
  have q2 := cell_of_row _ _ 2 _ _ _ hH
  have q3 := cell_of_row _ _ 3 _ _ _ hH
  have f1 := frozen_of_row _ _ 1 _ _ hH
  have g1 : ∀ w', Below W.heap.size W w' → w'.cell? ⟨B.hb k, 1, none⟩ = some (.int .i64 ((S.hand k).at_ : Nat)) := fun w' hb => (hb.cell (p := ⟨B.hb k, 1, none⟩) hlt).trans q1
  have g2 : ∀ w', Below W.heap.size W w' → w'.cell? ⟨B.hb k, 2, none⟩ = some (.bool (S.hand k).found) := fun w' hb => (hb.cell (p := ⟨B.hb k, 2, none⟩) hlt).trans q2
  have g3 : ∀ w', Below W.heap.size W w' → w'.cell? ⟨B.hb k, 3, none⟩ = some (.int .i64 (B.hv k)) := fun w' hb => (hb.cell (p := ⟨B.hb k, 3, none⟩) hlt).trans q3
  have gf : ∀ w', Below W.heap.size W w' → w'.frozen? ⟨B.hb k, 1, none⟩ = false := fun w' hb => (World.frozen?_of_block (a := ⟨B.hb k, 1, none⟩) (hb.block _ hlt)).trans f1
  have HPK : Hid (∀ w1, Below W.heap.size W w1 → UnTell W base t K S B k none (.returned (.tuple #[])) (w1.setCell ⟨B.hb k, 1, none⟩ (.int .i64 5))) := fun w1 hb => by
    have h1 := h.below hb
    have htg : t ≠ B.hb k := tag_ne h1.tagT (h1.tagHand k hp) (by decide)
    have hvg : B.bv ≠ B.hb k := tag_ne (map_tag h1.vals) (h1.tagHand k hp) (by decide)
    have hdg : B.bt ≠ B.hb k := tag_ne (map_tag h1.told) (h1.tagHand k hp) (by decide)
    have hbut : But (fun b => b = t ∨ b = B.hb k ∨ b = B.bv ∨ b = B.bt) w1 (w1.setCell ⟨B.hb k, 1, none⟩ (.int .i64 5)) := ⟨fun b _ hx => heap_setCell_other _ _ _ _ (fun e => hx (.inr (.inl e))), by simp⟩
    refine ⟨rfl, h1.poked k hk hp ⟨5, (S.hand k).found, (S.hand k).call⟩ (B.hv k) S.steps S.rows B.vm B.tm hbut ?_ ?_ ?_ h.valIs ?_ h.toldIs, But.below hb (hbut.mono ?_), ((hb.mono HBS.out).setCell ?_ _)⟩
    · exact (heap_setCell_other _ _ _ _ htg).trans h1.head
    · exact heap_setCell_same _ _ 1 _ _ _ (h1.hand k hp).2
    · obtain ⟨es, c, he, F⟩ := h1.vals
      exact ⟨es, c, (heap_setCell_other _ _ _ _ hvg).trans he, F⟩
    · obtain ⟨es, c, he, F⟩ := h1.told
      exact ⟨es, c, (heap_setCell_other _ _ _ _ hdg).trans he, F⟩
    · rintro b (e | e | e | e)
      · exact .inl e
      · exact .inr (.inr (.inr (.inr (.inr (.inr ⟨k, hp, e.symm⟩)))))
      · exact .inr (.inr (.inl e))
      · exact .inr (.inr (.inr (.inl e)))
    · exact (h.ap _ (.inr (.inr (.inr (.inr (.inr (.inr (.inr (.inr ⟨k, hp, rfl⟩))))))))).2.1
  clear h hH q1 q2 q3 f1
  generalize hak : S.ask K k = ak at *
  have HAK := hid hak
  clear hak
  obtain ⟨kd, ky, av⟩ := ak
  dsimp only at *
  generalize (S.hand k).found = fo at g2 ⊢
  generalize (S.hand k).at_ = ta at g1
  generalize B.hv k = hv at g3 ⊢
  by_cases h1 : kd = 1
  · subst h1
    cases fo with
    | true =>
      show Calls _ _ _ _ (UnTell W base t K S B k (some (0, 5)))
      go_enter Try.func53, Try.ntmps53
      go_wp2_with (first
        | (go_at_call 42; (with_reducible refine HA.out.mono ?_); rintro e w3 ⟨rfl, hb3⟩; have G1 := g1 w3 hb3; have GF := gf w3 hb3; have G2 := g2 w3 hb3; have G3 := g3 w3 hb3; have HB3 := hid hb3; have hz3 := hb3.size; have hlw : B.hb k < w3.heap.size := (by omega); clear hb3 hz3)
        | (go_at_call 54; (with_reducible refine (HE.out _ (HB3.out.alloc HB3.out.size _) 0 5).mono ?_); rintro e w4 ⟨rfl, he4⟩; have HE4 := hid he4; clear he4))
      refine bodyPost_end (v := .tuple #[]) (by simp [results, Try.results53, go_sem]) rfl ?_
      exact UnTell.of_end (HB3.out.alloc HB3.out.size _) HBS.out ⟨rfl, HE4.out⟩
    | false =>
      show Calls _ _ _ _ (UnTell W base t K S B k (some (0, 0)))
      go_enter Try.func53, Try.ntmps53
      go_wp2_with (first
        | (go_at_call 42; (with_reducible refine HA.out.mono ?_); rintro e w3 ⟨rfl, hb3⟩; have G1 := g1 w3 hb3; have GF := gf w3 hb3; have G2 := g2 w3 hb3; have G3 := g3 w3 hb3; have HB3 := hid hb3; have hz3 := hb3.size; have hlw : B.hb k < w3.heap.size := (by omega); clear hb3 hz3)
        | (go_at_call 54; (with_reducible refine (HE.out _ (HB3.out.alloc HB3.out.size _) 0 0).mono ?_); rintro e w4 ⟨rfl, he4⟩; have HE4 := hid he4; clear he4))
      refine bodyPost_end (v := .tuple #[]) (by simp [results, Try.results53, go_sem]) rfl ?_
      exact UnTell.of_end (HB3.out.alloc HB3.out.size _) HBS.out ⟨rfl, HE4.out⟩
  · have hd1 : (kd == 1) = false := by simpa using h1
    have hd1' : decide (kd = 1) = false := by simpa using h1
    cases fo with
    | true =>
      have hr : endV ⟨kd, ky, av⟩ true hv = some (hv, 0) := by unfold endV; rw [if_neg h1]; rfl
      rw [hr]
      clear hr
      show Calls _ _ _ _ (UnTell W base t K S B k (some (hv, 0)))
      go_enter Try.func53, Try.ntmps53
      go_wp2_with (first
        | (go_at_call 42; (with_reducible refine HA.out.mono ?_); rintro e w3 ⟨rfl, hb3⟩; have G1 := g1 w3 hb3; have GF := gf w3 hb3; have G2 := g2 w3 hb3; have G3 := g3 w3 hb3; have HB3 := hid hb3; have hz3 := hb3.size; have hlw : B.hb k < w3.heap.size := (by omega); clear hb3 hz3)
        | (go_at_call 54; (with_reducible refine (HE.out _ (HB3.out.alloc HB3.out.size _) hv 0).mono ?_); rintro e w4 ⟨rfl, he4⟩; have HE4 := hid he4; clear he4))
      refine bodyPost_end (v := .tuple #[]) (by simp [results, Try.results53, go_sem]) rfl ?_
      exact UnTell.of_end (HB3.out.alloc HB3.out.size _) HBS.out ⟨rfl, HE4.out⟩
    | false =>
      by_cases h2 : kd = 2
      · subst h2
        show Calls _ _ _ _ (UnTell W base t K S B k (some (0, 4)))
        go_enter Try.func53, Try.ntmps53
        go_wp2_with (first
          | (go_at_call 42; (with_reducible refine HA.out.mono ?_); rintro e w3 ⟨rfl, hb3⟩; have G1 := g1 w3 hb3; have GF := gf w3 hb3; have G2 := g2 w3 hb3; have G3 := g3 w3 hb3; have HB3 := hid hb3; have hz3 := hb3.size; have hlw : B.hb k < w3.heap.size := (by omega); clear hb3 hz3)
          | (go_at_call 54; (with_reducible refine (HE.out _ (HB3.out.alloc HB3.out.size _) 0 4).mono ?_); rintro e w4 ⟨rfl, he4⟩; have HE4 := hid he4; clear he4))
        refine bodyPost_end (v := .tuple #[]) (by simp [results, Try.results53, go_sem]) rfl ?_
        exact UnTell.of_end (HB3.out.alloc HB3.out.size _) HBS.out ⟨rfl, HE4.out⟩
      · have hd2 : (kd == 2) = false := by simpa using h2
        have hr : endV ⟨kd, ky, av⟩ false hv = none := by unfold endV; rw [if_neg h1, if_neg (by simp), if_neg h2]
        rw [hr]
        clear hr
        show Calls _ _ _ _ (UnTell W base t K S B k none)
        go_enter Try.func53, Try.ntmps53
        go_wp2_with (first
          | (go_at_call 42; (with_reducible refine HA.out.mono ?_); rintro e w3 ⟨rfl, hb3⟩; have G1 := g1 w3 hb3; have GF := gf w3 hb3; have G2 := g2 w3 hb3; have G3 := g3 w3 hb3; have HB3 := hid hb3; have hz3 := hb3.size; have hlw : B.hb k < w3.heap.size := (by omega); clear hb3 hz3))
        refine bodyPost_end (v := .tuple #[]) (by simp [results, Try.results53, go_sem]) rfl ?_
        exact (HPK.out _ HB3.out).alloc _ HBS.out
end Go.Proofs.Ytabkmdhkfbcldaa
namespace Go.Proofs.Ytabkmdhkfbcldaa

/-- What holds of a worker. -/
structure WOk (K : Wk) (S : Sh) (w : Nat) : Prop where
  nxt : S.next.getD w 0 ≤ (K.own w).length
  inh : (S.hand w).at_ ≠ 0 → S.next.getD w 0 < (K.own w).length ∧ (S.hand w).call < S.calls.length ∧ (S.hand w).at_ ≤ 5
  lock : 1 ≤ (S.hand w).at_ → (S.hand w).at_ ≤ 4 → S.lockOf K w = w
  two : (S.hand w).at_ = 2 → (S.ask K w).kind = 1 ∧ S.get (S.ask K w).key = none ∧ (S.hand w).found = false
  three : (S.hand w).at_ = 3 → (S.ask K w).kind = 1 ∧ S.get (S.ask K w).key = some (S.ask K w).value ∧ (S.hand w).found = false ∧ S.toldN (S.ask K w).key = false
  four : (S.hand w).at_ = 4 → ((S.hand w).found = true → S.get (S.ask K w).key ≠ none) ∧ ((S.hand w).found = false → (S.ask K w).kind ≠ 1 → S.get (S.ask K w).key = none) ∧ ((S.hand w).found = false → (S.ask K w).kind = 1 → S.get (S.ask K w).key = some (S.ask K w).value)
  five : (S.hand w).at_ = 5 → (S.ask K w).kind ≠ 1 ∧ (S.ask K w).kind ≠ 2
/-- Who holds a lock is on the way. -/
def Held (K : Wk) (S : Sh) : Prop := ∀ i, i < K.shards → S.locks.getD i (-1) = -1 ∨ ∃ v, v < K.work.length ∧ S.locks.getD i (-1) = (v : Int) ∧ 1 ≤ (S.hand v).at_ ∧ (S.hand v).at_ ≤ 4 ∧ K.of (S.ask K v).key = i
structure ShOk (K : Wk) (S : Sh) : Prop where
  nxl : S.next.length = K.work.length
  hnl : S.hands.length = K.work.length
  lkl : S.locks.length = K.shards
  each : ∀ w, w < K.work.length → WOk K S w
  keys : (S.rows.map Rw.key).Nodup
  untold : ∀ r ∈ S.rows, r.told = false → ∃ w, w < K.work.length ∧ (S.hand w).at_ = 3 ∧ (S.ask K w).key = r.key
  cnt : S.calls.length ≤ S.steps
  held : Held K S

theorem getD_set {α : Type} (l : List α) (k : Nat) (hk : k < l.length) (x d : α) (w : Nat) : (l.set k x).getD w d = if w = k then x else l.getD w d := by
  rw [List.getD_eq_getElem?_getD, List.getElem?_set]
  by_cases e : w = k
  · subst e; simp [hk]
  · rw [if_neg e, if_neg (fun h => e h.symm), ← List.getD_eq_getElem?_getD]
theorem rowAt_app (l : List Rw) (r : Rw) (k : ByteArray) : rowAt (l ++ [r]) k = (rowAt l k).or (if r.key = k then some r else none) := by
  unfold rowAt
  rw [List.find?_append]
  congr 1
  by_cases e : r.key = k <;> simp [List.find?, e]
def tellR (k : ByteArray) (r : Rw) : Rw := if r.key = k then ⟨r.key, r.val, true⟩ else r
theorem tellR_key (k : ByteArray) (r : Rw) : (tellR k r).key = r.key := by unfold tellR; split <;> rfl
theorem tellR_val (k : ByteArray) (r : Rw) : (tellR k r).val = r.val := by unfold tellR; split <;> rfl
theorem rowAt_tell (k x : ByteArray) : ∀ (l : List Rw), rowAt (l.map (tellR k)) x = (rowAt l x).map (tellR k)
  | [] => rfl
  | r :: l => by
    have ih := rowAt_tell k x l
    unfold rowAt at ih ⊢
    rw [List.map_cons, List.find?_cons, List.find?_cons, tellR_key]
    by_cases e : r.key = x
    · simp [e]
    · simp only [decide_eq_false e]; exact ih
theorem rowAt_some {l : List Rw} {k : ByteArray} {r : Rw} (h : rowAt l k = some r) : r ∈ l ∧ r.key = k := by
  unfold rowAt at h
  exact ⟨List.mem_of_find?_eq_some h, by simpa using List.find?_some h⟩
theorem rowAt_none {l : List Rw} {k : ByteArray} (h : rowAt l k = none) : k ∉ l.map Rw.key := by
  unfold rowAt at h
  rw [List.find?_eq_none] at h
  intro hm
  obtain ⟨r, hr, e⟩ := List.mem_map.1 hm
  exact h r hr (by simpa using e)
theorem rowAt_mem {l : List Rw} (hn : (l.map Rw.key).Nodup) {r : Rw} (hr : r ∈ l) : rowAt l r.key = some r := by
  cases h : rowAt l r.key with
  | none => exact absurd (List.mem_map_of_mem hr) (rowAt_none h)
  | some x =>
    obtain ⟨h1, h2⟩ := rowAt_some h
    obtain ⟨i, hi, rfl⟩ := List.getElem_of_mem hr
    obtain ⟨j, hj, rfl⟩ := List.getElem_of_mem h1
    have : j = i := (List.getElem_inj (xs := l.map Rw.key) (h₀ := by simpa using hj) (h₁ := by simpa using hi) hn).1 (by simpa using h2)
    subst this; rfl
section
variable {K : Wk} {S : Sh}
theorem get_app (r : Rw) (k : ByteArray) (S' : Sh) (hr : S'.rows = S.rows ++ [r]) : S'.get k = (S.get k).or (if r.key = k then some r.val else none) := by
  unfold Sh.get
  rw [hr, rowAt_app]
  cases rowAt S.rows k <;> simp
theorem told_app (r : Rw) (k : ByteArray) (S' : Sh) (hr : S'.rows = S.rows ++ [r]) (hn : r.told = false) : S'.toldN k = S.toldN k := by
  unfold Sh.toldN
  rw [hr, rowAt_app]
  cases rowAt S.rows k with
  | some x => rfl
  | none =>
    by_cases e : r.key = k
    · simp [e, hn]
    · simp [e]
theorem get_tell (x k : ByteArray) (S' : Sh) (hr : S'.rows = S.rows.map (tellR x)) : S'.get k = S.get k := by
  unfold Sh.get
  rw [hr, rowAt_tell]
  cases rowAt S.rows k <;> simp [tellR_val]
theorem told_tell (x k : ByteArray) (S' : Sh) (hr : S'.rows = S.rows.map (tellR x)) : S'.toldN k = if k = x then (S.get k).isSome else S.toldN k := by
  unfold Sh.toldN Sh.get
  rw [hr, rowAt_tell]
  cases h : rowAt S.rows k with
  | none => simp
  | some r =>
    have hk := (rowAt_some h).2
    by_cases e : k = x
    · simp [tellR, hk, e]
    · simp [tellR, hk, e]
theorem get_rows (S' : Sh) (hr : S'.rows = S.rows) (k : ByteArray) : S'.get k = S.get k := by unfold Sh.get; rw [hr]
theorem told_rows (S' : Sh) (hr : S'.rows = S.rows) (k : ByteArray) : S'.toldN k = S.toldN k := by unfold Sh.toldN; rw [hr]
/-- A worker that does not go on. -/
theorem WOk.other {v : Nat} (h : WOk K S v) (S' : Sh) (hn : S'.next.getD v 0 = S.next.getD v 0) (hh : S'.hand v = S.hand v) (hc : S.calls.length ≤ S'.calls.length)
    (hl : 1 ≤ (S.hand v).at_ → (S.hand v).at_ ≤ 4 → S.lockOf K v = v → S'.lockOf K v = v)
    (hg : 1 ≤ (S.hand v).at_ → (S.hand v).at_ ≤ 4 → S'.get (S.ask K v).key = S.get (S.ask K v).key ∧ S'.toldN (S.ask K v).key = S.toldN (S.ask K v).key) : WOk K S' v := by
  have ha : S'.ask K v = S.ask K v := by unfold Sh.ask; rw [hn]
  refine ⟨by rw [hn]; exact h.nxt, ?_, ?_, ?_, ?_, ?_, ?_⟩
  · rw [hh, hn]; intro h0; have := h.inh h0; exact ⟨this.1, by omega, this.2.2⟩
  · rw [hh]; intro h1 h2; exact hl h1 h2 (h.lock h1 h2)
  · rw [hh, ha]; intro h2; rw [(hg (by omega) (by omega)).1]; exact h.two h2
  · rw [hh, ha]; intro h2; rw [(hg (by omega) (by omega)).1, (hg (by omega) (by omega)).2]; exact h.three h2
  · rw [hh, ha]; intro h2; rw [(hg (by omega) (by omega)).1]; exact h.four h2
  · rw [hh, ha]; exact h.five
theorem hand_set (S' : Sh) (w : Nat) (x : Hn) (hw : w < S.hands.length) (e : S'.hands = S.hands.set w x) (v : Nat) : S'.hand v = if v = w then x else S.hand v := by
  unfold Sh.hand; rw [e, getD_set _ _ hw]
theorem ShOk.build (h : ShOk K S) (w : Nat) (hw : w < K.work.length) (S' : Sh) (x : Hn) (e1 : S'.next.length = S.next.length) (e1' : ∀ v, v ≠ w → S'.next.getD v 0 = S.next.getD v 0) (e2 : S'.hands = S.hands.set w x)
    (e3 : S'.locks.length = S.locks.length) (e4 : S.calls.length ≤ S'.calls.length) (e5 : S'.calls.length ≤ S'.steps)
    (ho : ∀ v, v < K.work.length → v ≠ w → 1 ≤ (S.hand v).at_ → (S.hand v).at_ ≤ 4 → (S.lockOf K v = v → S'.locks.getD (K.of (S.ask K v).key) (-1) = v) ∧ S'.get (S.ask K v).key = S.get (S.ask K v).key ∧ S'.toldN (S.ask K v).key = S.toldN (S.ask K v).key)
    (hs : S'.hand w = x → WOk K S' w) (hk : (S'.rows.map Rw.key).Nodup)
    (hu : (∀ v, v ≠ w → S'.hand v = S.hand v) → (∀ v, v ≠ w → S'.ask K v = S.ask K v) → S'.hand w = x → ∀ r ∈ S'.rows, r.told = false → ∃ v, v < K.work.length ∧ (S'.hand v).at_ = 3 ∧ (S'.ask K v).key = r.key)
    (hd : (∀ v, v ≠ w → S'.hand v = S.hand v) → (∀ v, v ≠ w → S'.ask K v = S.ask K v) → S'.hand w = x → Held K S') : ShOk K S' := by
  have hh := hand_set S' w x (by rw [h.hnl]; exact hw) e2
  have ha : ∀ v, v ≠ w → S'.ask K v = S.ask K v := fun v hv => by unfold Sh.ask; rw [e1' v hv]
  refine ⟨by rw [e1]; exact h.nxl, by rw [e2, List.length_set]; exact h.hnl, by rw [e3]; exact h.lkl, fun v hv => ?_, hk, hu (fun v hv => by rw [hh, if_neg hv]) ha (by rw [hh, if_pos rfl]), e5, hd (fun v hv => by rw [hh, if_neg hv]) ha (by rw [hh, if_pos rfl])⟩
  by_cases e : v = w
  · subst e; exact hs (by rw [hh, if_pos rfl])
  · refine (h.each v hv).other S' (e1' v e) (by rw [hh, if_neg e]) e4 (fun h1 h2 h3 => ?_) (fun h1 h2 => (ho v hv e h1 h2).2)
    unfold Sh.lockOf; rw [ha v e]; exact (ho v hv e h1 h2).1 h3
theorem can_facts {w : Nat} (hc : S.canN K w = true) : S.doneN K w = false ∧ S.waitsN K w = false := by
  unfold Sh.canN at hc
  simpa using hc
theorem ShOk.nx {w : Nat} (h : ShOk K S) (hw : w < K.work.length) (hd : S.doneN K w = false) : S.next.getD w 0 < (K.own w).length := by
  have := (h.each w hw).nxt
  unfold Sh.doneN at hd
  simp only [Bool.or_eq_false_iff, decide_eq_false_iff_not] at hd
  omega
/-- A worker that holds its shard's lock: the one that goes on has another shard. -/
theorem ShOk.apart (h : ShOk K S) {v w : Nat} (hv : v < K.work.length) (hw : w < K.work.length) (hne : v ≠ w) (h1 : 1 ≤ (S.hand v).at_) (h4 : (S.hand v).at_ ≤ 4) (hc : S.canN K w = true) (hw4 : (S.hand w).at_ ≤ 4) :
    K.of (S.ask K w).key ≠ K.of (S.ask K v).key := fun e => by
  have lv := (h.each v hv).lock h1 h4
  by_cases h0 : (S.hand w).at_ = 0
  · obtain ⟨hd, hwt⟩ := can_facts hc
    unfold Sh.waitsN at hwt
    rw [if_neg (by rw [hd]; simp)] at hwt
    rw [h0] at hwt
    have el : S.lockOf K w = S.lockOf K v := by unfold Sh.lockOf; rw [e]
    rw [el, lv] at hwt
    simp at hwt
    omega
  · have lw := (h.each w hw).lock (by omega) hw4
    have el : S.lockOf K w = S.lockOf K v := by unfold Sh.lockOf; rw [e]
    rw [el, lv] at lw
    omega
theorem locks_set (l : List Int) (i j : Nat) (x : Int) (h : i ≠ j) : (l.set i x).getD j (-1) = l.getD j (-1) := by
  rw [List.getD_eq_getElem?_getD, List.getElem?_set_ne h, ← List.getD_eq_getElem?_getD]
theorem locks_self (l : List Int) (i : Nat) (x : Int) (h : i < l.length) : (l.set i x).getD i (-1) = x := by
  rw [List.getD_eq_getElem?_getD, List.getElem?_set_self h]; rfl
theorem get_none_key {k : ByteArray} (h : S.get k = none) : k ∉ S.rows.map Rw.key := by
  unfold Sh.get at h
  exact rowAt_none (by simpa using h)
theorem untold_keep {S' : Sh} {w : Nat} (h : ShOk K S) (hr : S'.rows = S.rows) (h3 : (S.hand w).at_ ≠ 3) (hh : ∀ v, v ≠ w → S'.hand v = S.hand v) (ha : ∀ v, v ≠ w → S'.ask K v = S.ask K v) :
    ∀ r ∈ S'.rows, r.told = false → ∃ v, v < K.work.length ∧ (S'.hand v).at_ = 3 ∧ (S'.ask K v).key = r.key := fun r hm ht => by
  rw [hr] at hm
  obtain ⟨v, v1, v2, v3⟩ := h.untold r hm ht
  have hne : v ≠ w := fun e => by subst e; exact h3 v2
  exact ⟨v, v1, by rw [hh v hne]; exact v2, by rw [ha v hne]; exact v3⟩
/-- The step ends its worker's call. -/
theorem ShOk.ended (h : ShOk K S) {w : Nat} (hw : w < K.work.length) (hc : S.canN K w = true) (h3 : (S.hand w).at_ ≠ 3) (S' : Sh) (e1 : S'.next = S.next.set w (S.next.getD w 0 + 1)) (e2 : S'.hands = S.hands.set w hn0)
    (e3 : S'.locks = S.locks ∧ (S.hand w).at_ = 5 ∨ S'.locks = S.locks.set (K.of (S.ask K w).key) (-1) ∧ (S.hand w).at_ ≤ 4) (HO : ∀ k, K.of k < K.shards) (e4 : S'.calls.length = S.calls.length) (e5 : S'.steps = S.steps + 1) (e6 : S'.rows = S.rows) : ShOk K S' := by
  have hnx := h.nx hw (can_facts hc).1
  have hwl : w < S.next.length := by rw [h.nxl]; exact hw
  refine h.build w hw S' hn0 (by rw [e1, List.length_set]) (fun v hv => by rw [e1, getD_set _ _ hwl, if_neg hv]) e2 (by rcases e3 with ⟨e, _⟩ | ⟨e, _⟩ <;> rw [e]; rw [List.length_set]) (by omega) (by have := h.cnt; omega) ?_ ?_ (by rw [e6]; exact h.keys) (fun hh ha _ => untold_keep h e6 h3 hh ha) ?_
  · intro v hv hne h1 h4
    refine ⟨fun hl => ?_, get_rows S' e6 _, told_rows S' e6 _⟩
    rcases e3 with ⟨e, _⟩ | ⟨e, hw4⟩
    · rw [e]; exact hl
    · rw [e, locks_set _ _ _ _ (h.apart hv hw hne h1 h4 hc hw4)]; exact hl
  · intro hx
    refine ⟨by rw [e1, getD_set _ _ hwl, if_pos rfl]; omega, ?_, ?_, ?_, ?_, ?_, ?_⟩ <;> rw [hx] <;> simp [hn0]
  · intro hh ha _ i hi
    rcases e3 with ⟨e, h5⟩ | ⟨e, hw4⟩
    · rw [e]
      rcases h.held i hi with h0 | ⟨v, v1, v2, v3, v4, v5⟩
      · exact .inl h0
      · have hne : v ≠ w := fun e => by subst e; omega
        exact .inr ⟨v, v1, v2, by rw [hh v hne]; exact v3, by rw [hh v hne]; exact v4, by rw [ha v hne]; exact v5⟩
    · rw [e]
      by_cases hi2 : i = K.of (S.ask K w).key
      · subst hi2; exact .inl (locks_self _ _ _ (by rw [h.lkl]; exact HO _))
      · rw [locks_set _ _ _ _ (Ne.symm hi2)]
        rcases h.held i hi with h0 | ⟨v, v1, v2, v3, v4, v5⟩
        · exact .inl h0
        · have hne : v ≠ w := fun e => by subst e; exact hi2 v5.symm
          exact .inr ⟨v, v1, v2, by rw [hh v hne]; exact v3, by rw [hh v hne]; exact v4, by rw [ha v hne]; exact v5⟩
/-- The step moves its worker's call on. -/
theorem ShOk.moved (h : ShOk K S) {w : Nat} (hw : w < K.work.length) (hc : S.canN K w = true) (S' : Sh) (x : Hn) (e1 : S'.next = S.next) (e2 : S'.hands = S.hands.set w x) (hw4 : (S.hand w).at_ ≤ 4)
    (HO : ∀ k, K.of k < K.shards) (e3 : (S'.locks = S.locks ∧ 1 ≤ (S.hand w).at_ ∧ 1 ≤ x.at_ ∧ x.at_ ≤ 4) ∨ ∃ o, S'.locks = S.locks.set (K.of (S.ask K w).key) o ∧ (o = -1 ∨ o = (w : Int) ∧ 1 ≤ x.at_ ∧ x.at_ ≤ 4)) (e4 : S.calls.length ≤ S'.calls.length ∧ S'.calls.length ≤ S.calls.length + 1) (e5 : S'.steps = S.steps + 1)
    (e6 : S'.rows = S.rows ∧ (S.hand w).at_ ≠ 3 ∨ S'.rows = S.rows ++ [⟨(S.ask K w).key, (S.ask K w).value, false⟩] ∧ x.at_ = 3 ∧ S.get (S.ask K w).key = none ∨ S'.rows = S.rows.map (tellR (S.ask K w).key))
    (hs : S'.hand w = x → S'.ask K w = S.ask K w → S'.next.getD w 0 < (K.own w).length → WOk K S' w) : ShOk K S' := by
  have hnx := h.nx hw (can_facts hc).1
  have hask : ∀ v, S'.ask K v = S.ask K v := fun v => by unfold Sh.ask; rw [e1]
  refine h.build w hw S' x (by rw [e1]) (fun v _ => by rw [e1]) e2 (by rcases e3 with ⟨e, _⟩ | ⟨_, e, _⟩ <;> rw [e]; rw [List.length_set]) e4.1 (by have := h.cnt; omega) ?_ (fun hx => hs hx (hask w) (by rw [e1]; exact hnx)) ?_ ?_ ?_
  · intro v hv hne h1 h4
    have hap := h.apart hv hw hne h1 h4 hc hw4
    have hkey : (S.ask K w).key ≠ (S.ask K v).key := fun e => hap (by rw [e])
    refine ⟨fun hl => ?_, ?_⟩
    · rcases e3 with ⟨e, _⟩ | ⟨_, e, _⟩
      · rw [e]; exact hl
      · rw [e, locks_set _ _ _ _ hap]; exact hl
    · rcases e6 with ⟨e, _⟩ | ⟨e, _⟩ | e
      · exact ⟨get_rows S' e _, told_rows S' e _⟩
      · exact ⟨by rw [get_app _ _ S' e, if_neg hkey]; simp, told_app _ _ S' e rfl⟩
      · exact ⟨get_tell _ _ S' e, by rw [told_tell _ _ S' e, if_neg (Ne.symm hkey)]⟩
  · rcases e6 with ⟨e, _⟩ | ⟨e, _, hn⟩ | e
    · rw [e]; exact h.keys
    · rw [e, List.map_append, List.nodup_append]
      refine ⟨h.keys, by simp, fun a ha b hb => ?_⟩
      simp at hb
      subst hb
      rintro rfl
      exact get_none_key hn ha
    · rw [e, List.map_map]
      have : (Rw.key ∘ tellR (S.ask K w).key) = Rw.key := funext fun r => tellR_key _ r
      rw [this]; exact h.keys
  · intro hh ha hx
    rcases e6 with ⟨e, h3⟩ | ⟨e, hx3, _⟩ | e
    · exact untold_keep h e h3 hh ha
    · intro r hm ht
      rw [e] at hm
      rcases List.mem_append.1 hm with hm | hm
      · obtain ⟨v, v1, v2, v3⟩ := h.untold r hm ht
        by_cases hne : v = w
        · subst hne; exact ⟨v, v1, by rw [hx]; exact hx3, by rw [hask]; exact v3⟩
        · exact ⟨v, v1, by rw [hh v hne]; exact v2, by rw [hask]; exact v3⟩
      · simp at hm
        subst hm
        exact ⟨w, hw, by rw [hx]; exact hx3, by rw [hask]⟩
    · intro r hm ht
      rw [e] at hm
      obtain ⟨q, hq, rfl⟩ := List.mem_map.1 hm
      have hqk : q.key ≠ (S.ask K w).key := fun e => by unfold tellR at ht; rw [if_pos e] at ht; cases ht
      have hqt : q.told = false := by unfold tellR at ht; rw [if_neg hqk] at ht; exact ht
      obtain ⟨v, v1, v2, v3⟩ := h.untold q hq hqt
      have hne : v ≠ w := fun e => by subst e; exact hqk v3.symm
      exact ⟨v, v1, by rw [hh v hne]; exact v2, by rw [hask, tellR_key]; exact v3⟩
  · intro hh ha hx i hi
    rcases e3 with ⟨e, h1, h2, h4⟩ | ⟨o, e, ho⟩
    · rw [e]
      rcases h.held i hi with h0 | ⟨v, v1, v2, v3, v4, v5⟩
      · exact .inl h0
      · by_cases hne : v = w
        · subst hne; exact .inr ⟨v, v1, v2, by rw [hx]; exact h2, by rw [hx]; exact h4, by rw [hask]; exact v5⟩
        · exact .inr ⟨v, v1, v2, by rw [hh v hne]; exact v3, by rw [hh v hne]; exact v4, by rw [hask]; exact v5⟩
    · rw [e]
      by_cases hi2 : i = K.of (S.ask K w).key
      · subst hi2
        rw [locks_self _ _ _ (by rw [h.lkl]; exact HO _)]
        rcases ho with rfl | ⟨rfl, h2, h4⟩
        · exact .inl rfl
        · exact .inr ⟨w, hw, rfl, by rw [hx]; exact h2, by rw [hx]; exact h4, by rw [hask]⟩
      · rw [locks_set _ _ _ _ (Ne.symm hi2)]
        rcases h.held i hi with h0 | ⟨v, v1, v2, v3, v4, v5⟩
        · exact .inl h0
        · have hne : v ≠ w := fun e => by subst e; exact hi2 v5.symm
          exact .inr ⟨v, v1, v2, by rw [hh v hne]; exact v3, by rw [hh v hne]; exact v4, by rw [ha v hne]; exact v5⟩
/-- Ahead of a beginning the shard is free. -/
theorem ShOk.free (HO : ∀ k, K.of k < K.shards) (h : ShOk K S) {w : Nat} (hc : S.canN K w = true) (h0 : (S.hand w).at_ = 0) : S.locks.getD (K.of (S.ask K w).key) (-1) = -1 := by
  rcases h.held _ (HO (S.ask K w).key) with e | ⟨v, v1, v2, v3, v4, v5⟩
  · exact e
  · exfalso
    obtain ⟨hd, hwt⟩ := can_facts hc
    unfold Sh.waitsN at hwt
    rw [if_neg (by rw [hd]; simp)] at hwt
    rw [h0] at hwt
    have el : S.lockOf K w = v := v2
    rw [el] at hwt
    simp at hwt
    have hvw : v = w := by omega
    subst hvw
    omega
theorem ShOk.step (HO : ∀ k, K.of k < K.shards) (h : ShOk K S) (w : Nat) (hw : w < K.work.length) : ShOk K (S.stepN K w) := by
  unfold Sh.stepN
  cases hc : S.canN K w with
  | false => rw [if_neg (by simp)]; exact h
  | true =>
    rw [if_pos rfl]
    have H := h.each w hw
    have hnx := h.nx hw (can_facts hc).1
    have h5 : (S.hand w).at_ ≤ 5 := by
      by_cases h0 : (S.hand w).at_ = 0
      · omega
      · exact (H.inh h0).2.2
    have hlk : K.of (S.ask K w).key < S.locks.length := by rw [h.lkl]; exact HO _
    have hcall : (S.hand w).at_ ≠ 0 → (S.hand w).call < S.calls.length := fun h0 => (H.inh h0).2.1
    unfold Sh.body
    dsimp only
    rcases (show (S.hand w).at_ = 0 ∨ (S.hand w).at_ = 1 ∨ (S.hand w).at_ = 2 ∨ (S.hand w).at_ = 3 ∨ (S.hand w).at_ = 4 ∨ (S.hand w).at_ = 5 by omega) with e | e | e | e | e | e <;> simp only [e]
    · refine h.moved hw hc _ ⟨1, false, S.calls.length⟩ rfl rfl (by omega) HO (.inr ⟨(w : Int), rfl, .inr ⟨rfl, by simp, by simp⟩⟩) (by simp [Sh.setH, Sh.setL]) rfl (.inl ⟨rfl, by omega⟩) ?_
      intro hx ha hn
      refine ⟨by omega, ?_, ?_, ?_, ?_, ?_, ?_⟩ <;> rw [hx] <;> try simp
      · exact ⟨hn, by simp [Sh.setH, Sh.setL]⟩
      · unfold Sh.lockOf; rw [ha]; exact locks_self _ _ _ hlk
    · refine h.moved hw hc _ ⟨if (S.ask K w).kind = 1 ∧ S.get (S.ask K w).key = none then 2 else 4, (S.get (S.ask K w).key).isSome, (S.hand w).call⟩ rfl rfl (by omega) HO (.inl ⟨rfl, by omega, by dsimp only; split <;> omega, by dsimp only; split <;> omega⟩) (by simp [Sh.setH]) rfl (.inl ⟨rfl, by omega⟩) ?_
      intro hx ha hn
      have hl := H.lock (by omega) (by omega)
      have hg : ∀ k, ({ (S.setH w ⟨if (S.ask K w).kind = 1 ∧ S.get (S.ask K w).key = none then 2 else 4, (S.get (S.ask K w).key).isSome, (S.hand w).call⟩ : Sh) with steps := S.steps + 1 } : Sh).get k = S.get k := fun k => get_rows _ rfl k
      by_cases hp : (S.ask K w).kind = 1 ∧ S.get (S.ask K w).key = none
      · rw [if_pos hp] at hx hg ha hn ⊢
        refine ⟨by omega, ?_, ?_, ?_, ?_, ?_, ?_⟩ <;> rw [hx] <;> try simp
        · exact ⟨hn, hcall (by omega)⟩
        · unfold Sh.lockOf; rw [ha]; exact hl
        · rw [ha, hg]; exact ⟨hp.1, hp.2, hp.2⟩
      · rw [if_neg hp] at hx hg ha hn ⊢
        refine ⟨by omega, ?_, ?_, ?_, ?_, ?_, ?_⟩ <;> rw [hx] <;> try simp
        · exact ⟨hn, hcall (by omega)⟩
        · unfold Sh.lockOf; rw [ha]; exact hl
        · rw [ha, hg]
          refine ⟨fun h1 h2 => (by rw [h2] at h1; cases h1), fun h1 _ => h1, fun h1 h2 => absurd ⟨h2, h1⟩ hp⟩
    · obtain ⟨t1, t2, t3⟩ := H.two e
      refine h.moved hw hc _ { S.hand w with at_ := 3 } rfl rfl (by omega) HO (.inl ⟨rfl, by omega, by simp, by simp⟩) (by simp [Sh.setH]) rfl (.inr (.inl ⟨rfl, rfl, t2⟩)) ?_
      intro hx ha hn
      have hl := H.lock (by omega) (by omega)
      refine ⟨by omega, ?_, ?_, ?_, ?_, ?_, ?_⟩ <;> rw [hx] <;> try simp
      · exact ⟨hn, hcall (by omega)⟩
      · unfold Sh.lockOf; rw [ha]; exact hl
      · rw [ha]
        refine ⟨t1, ?_, t3, ?_⟩
        · rw [get_app (S := S) ⟨(S.ask K w).key, (S.ask K w).value, false⟩ _ _ rfl, t2]; simp
        · rw [told_app (S := S) ⟨(S.ask K w).key, (S.ask K w).value, false⟩ _ _ rfl rfl]
          unfold Sh.toldN
          unfold Sh.get at t2
          cases hr : rowAt S.rows (S.ask K w).key with
          | none => rfl
          | some r => rw [hr] at t2; cases t2
    · obtain ⟨t1, t2, t3, t4⟩ := H.three e
      refine h.moved hw hc _ { S.hand w with at_ := 4 } rfl rfl (by omega) HO (.inl ⟨rfl, by omega, by simp, by simp⟩) (by simp [Sh.setH]) rfl (.inr (.inr rfl)) ?_
      intro hx ha hn
      have hl := H.lock (by omega) (by omega)
      refine ⟨by omega, ?_, ?_, ?_, ?_, ?_, ?_⟩ <;> rw [hx] <;> try simp
      · exact ⟨hn, hcall (by omega)⟩
      · unfold Sh.lockOf; rw [ha]; exact hl
      · rw [ha, get_tell (S := S) (S.ask K w).key _ _ rfl, t2]
        exact ⟨fun _ h => (by cases h), fun _ h => absurd t1 h, fun _ _ => rfl⟩
    · have hl := H.lock (by omega) (by omega)
      split
      · next n er heq =>
        exact h.ended hw hc (by omega) _ rfl rfl (.inr ⟨rfl, by omega⟩) HO (by simp [Sh.endN, Sh.setL]) rfl rfl
      · next heq =>
        refine h.moved hw hc _ { S.hand w with at_ := 5 } rfl rfl (by omega) HO (.inr ⟨-1, rfl, .inl rfl⟩) (by simp [Sh.setH, Sh.setL]) rfl (.inl ⟨rfl, by omega⟩) ?_
        intro hx ha hn
        refine ⟨by omega, ?_, ?_, ?_, ?_, ?_, ?_⟩ <;> rw [hx] <;> try simp
        · exact ⟨hn, hcall (by omega)⟩
        · rw [ha]
          unfold endOf2 at heq
          refine ⟨fun h1 => ?_, fun h1 => ?_⟩
          · rw [if_pos h1] at heq; cases heq
          · rw [if_neg (by omega)] at heq
            split at heq
            · cases heq
            · first | (cases heq; done) | (rw [if_pos h1] at heq; cases heq)
    · exact h.ended hw hc (by omega) _ rfl rfl (.inl ⟨rfl, e⟩) HO (by simp [Sh.endN]) rfl rfl
end
end Go.Proofs.Ytabkmdhkfbcldaa
namespace Go.Proofs.Ytabkmdhkfbcldaa
open Go.RowKit

variable {W W' : World} {base t : Nat} {K : Wk} {S : Sh} {B : TB}
/-- The code's table, as it is between two steps. -/
structure TOk (W : World) (base t : Nat) (K : Wk) (S : Sh) (B : TB) : Prop where
  is : TabIs W base t K S B
  ok : ShOk K S
  pr : ∀ w, B.pr w = true → w < K.work.length ∧ (S.hand w).at_ ≠ 0
  hv : ∀ w, B.pr w = true → (S.hand w).at_ = 4 → (S.hand w).found = true → S.get (S.ask K w).key = some (B.hv w)
def TStep (W : World) (base t : Nat) (K : Wk) (B : TB) (S' : Sh) (e : Ending) (w' : World) : Prop :=
  e = .returned (.tuple #[]) ∧ ∃ B', TOk w' base t K S' B' ∧ (∀ b, B'.fp K t b → B.fp K t b ∨ W.heap.size ≤ b) ∧ But (B.fp K t) W w' ∧ Below base W w'
theorem step_hand (w : Nat) (hw : w < S.hands.length) (v : Nat) (hv : v ≠ w) : (S.stepN K w).hand v = S.hand v := by
  unfold Sh.stepN
  split
  · have key : ∀ x, ({ hands := S.hands.set w x, locks := [], rows := [], next := [], calls := [], steps := 0 } : Sh).hand v = S.hand v := fun x => by
      show (S.hands.set w x).getD v hn0 = S.hands.getD v hn0
      rw [getD_set _ _ hw, if_neg hv]
    unfold Sh.body
    dsimp only
    split
    · exact key _
    · exact key _
    · exact key _
    · exact key _
    · split
      · exact key _
      · exact key _
    · exact key _
  · rfl
theorem step_next (w : Nat) (hw : w < S.next.length) (v : Nat) (hv : v ≠ w) : (S.stepN K w).next.getD v 0 = S.next.getD v 0 := by
  unfold Sh.stepN
  split
  · have key : ∀ x, (S.next.set w x).getD v 0 = S.next.getD v 0 := fun x => by rw [getD_set _ _ hw, if_neg hv]
    unfold Sh.body
    dsimp only
    split
    · rfl
    · rfl
    · rfl
    · rfl
    · split
      · exact key _
      · rfl
    · exact key _
  · rfl
theorem step_ask (w : Nat) (hw : w < S.next.length) (v : Nat) (hv : v ≠ w) : (S.stepN K w).ask K v = S.ask K v := by
  unfold Sh.ask; rw [step_next w hw v hv]
theorem step_get (w : Nat) (k : ByteArray) (x : Int) (h : S.get k = some x) : (S.stepN K w).get k = some x := by
  unfold Sh.stepN
  split
  · unfold Sh.body
    dsimp only
    split
    · exact h
    · exact h
    · rw [get_app (S := S) ⟨(S.ask K w).key, (S.ask K w).value, false⟩ _ _ rfl, h]; rfl
    · rw [get_tell (S := S) (S.ask K w).key _ _ rfl, h]
    · split
      · exact h
      · exact h
    · exact h
  · exact h
theorem step_not {w : Nat} (h : S.canN K w = false) : S.stepN K w = S := by unfold Sh.stepN; rw [h]; rfl
theorem step_is {w : Nat} (h : S.canN K w = true) : S.stepN K w = { S.body K w with steps := S.steps + 1 } := by unfold Sh.stepN; rw [h]; rfl
theorem wr_fp {b : Nat} (h : B.wr t b) : B.fp K t b := .inl (TabIs.wr_mine h)
/-- A step whose worker's call goes on: what is left to show. -/
theorem TStep.goes (HO : ∀ k, K.of k < K.shards) (H : TOk W base t K S B) {k : Nat} (hk : k < K.work.length) {w' : World} {B' : TB} (hpr : ∀ w, B'.pr w = B.pr w ∨ w = k) (hkk : B'.pr k = true → (S.stepN K k).hand k ≠ hn0 → ((S.stepN K k).hand k).at_ ≠ 0)
    (hk0 : B'.pr k = true → (S.stepN K k).hand k ≠ hn0)
    (hhv : ∀ w, w ≠ k → B'.hv w = B.hv w)
    (hself : B'.pr k = true → ((S.stepN K k).hand k).at_ = 4 → ((S.stepN K k).hand k).found = true → (S.stepN K k).get ((S.stepN K k).ask K k).key = some (B'.hv k))
    (hT : TabIs w' base t K (S.stepN K k) B') (hfp : ∀ b, B'.fp K t b → B.fp K t b ∨ W.heap.size ≤ b) (hb : But (B.fp K t) W w') (hbel : Below base W w') : TStep W base t K B (S.stepN K k) (.returned (.tuple #[])) w' := by
  have hkl : k < S.hands.length := by rw [H.ok.hnl]; exact hk
  have hkn : k < S.next.length := by rw [H.ok.nxl]; exact hk
  refine ⟨rfl, B', ⟨hT, H.ok.step HO k hk, fun w hw => ?_, fun w hw h4 hf => ?_⟩, hfp, hb, hbel⟩
  · by_cases e : w = k
    · subst e; exact ⟨hk, hkk hw (hk0 hw)⟩
    · have hw' : B.pr w = true := by rcases hpr w with h | h; exact h ▸ hw; exact absurd h e
      rw [step_hand k hkl w e]
      exact H.pr w hw'
  · by_cases e : w = k
    · subst e; exact hself hw h4 hf
    · have hw' : B.pr w = true := by rcases hpr w with h | h; exact h ▸ hw; exact absurd h e
      rw [step_hand k hkl w e] at h4 hf
      rw [step_ask k hkn w e, hhv w e]
      exact step_get k _ _ (H.hv w hw' h4 hf)
/-- A step that writes its worker's hand, the count of steps and the maps. -/
theorem TStep.poked (HO : ∀ k, K.of k < K.shards) (H : TOk W base t K S B) {k : Nat} (hk : k < K.work.length) (hp : B.pr k = true) {wc w' : World} (hbc : Below W.heap.size W wc)
    (x : Hn) (v : Int) (rows : List Rw) (vm : List (ByteArray × Int)) (tm : List (ByteArray × Bool)) (hS : S.stepN K k = S.poke k x rows (S.steps + 1)) (hx : x.at_ ≠ 0)
    (hv : x.at_ = 4 → x.found = true → (S.stepN K k).get (S.ask K k).key = some v)
    (hb : But (fun b => b = t ∨ b = B.hb k ∨ b = B.bv ∨ b = B.bt) wc w') (hbel : Below base wc w')
    (head : w'.heap[t]? = some (tabO B K (S.steps + 1))) (hand : w'.heap[B.hb k]? = some (handO x v))
    (vals : MapIs Value.string (Value.int .i64) w' B.bv vm) (valIs : ∀ key, alook vm key = (rowAt rows key).map Rw.val)
    (told : MapIs Value.string Value.bool w' B.bt tm) (toldIs : ∀ key, (alook tm key).getD false = match rowAt rows key with | some r => r.told | none => false) :
    TStep W base t K B (S.stepN K k) (.returned (.tuple #[])) w' := by
  have hkl : k < S.hands.length := by rw [H.ok.hnl]; exact hk
  have hbs : base ≤ W.heap.size := by have := (H.is.ap t (.inl rfl)).2; omega
  have hT := (H.is.below hbc).poked k hk hp x v (S.steps + 1) rows vm tm hb head hand vals valIs told toldIs
  have hhk : (S.stepN K k).hand k = x := by rw [hS]; exact (setH_hand S k hkl x k).trans (if_pos rfl)
  have hak : (S.stepN K k).ask K k = S.ask K k := by rw [hS]; rfl
  refine TStep.goes HO H hk (B' := B.poke k v vm tm) (fun w => .inl rfl) (fun _ _ => by rw [hhk]; exact hx) (fun _ => by rw [hhk]; intro e; rw [e] at hx; exact hx rfl) (fun w hw => ?_) (fun _ h4 hf => ?_) (by rw [hS]; exact hT) (fun b hbf => .inl hbf) (But.below hbc (hb.mono ?_)) ((hbc.mono hbs).trans hbel)
  · show (if w = k then v else B.hv w) = B.hv w
    rw [if_neg hw]
  · rw [hhk] at h4 hf
    rw [hak, hv h4 hf]
    show some v = some (if k = k then v else B.hv k)
    rw [if_pos rfl]
  · rintro b (e | e | e | e)
    · exact wr_fp (.inl e)
    · exact wr_fp (.inr (.inr (.inr (.inr (.inr (.inr ⟨k, hp, e.symm⟩))))))
    · exact wr_fp (.inr (.inr (.inl e)))
    · exact wr_fp (.inr (.inr (.inr (.inl e))))
theorem poke_self (B : TB) (k : Nat) : B.poke k (B.hv k) B.vm B.tm = B := by
  have e : (fun w => if w = k then B.hv k else B.hv w) = B.hv := funext fun w => by
    by_cases h : w = k
    · rw [if_pos h, h]
    · rw [if_neg h]
  unfold TB.poke
  rw [e]
theorem pokeS_self (S : Sh) (k : Nat) (hk : k < S.hands.length) (n : Nat) : S.poke k (S.hand k) S.rows n = { S with steps := n } := by
  have e : S.hands.set k (S.hand k) = S.hands := by
    apply List.ext_getElem (by simp)
    intro i h1 h2
    rw [List.getElem_set]
    by_cases h : k = i
    · subst h; simp [Sh.hand, List.getD_eq_getElem?_getD, hk]
    · rw [if_neg h]
  unfold Sh.poke
  rw [e]
theorem endB_fp {k b : Nat} (h : (B.endB k).fp K t b) : B.fp K t b := by
  rcases h with h | h
  · refine .inl ?_
    rcases h with e | e | e | e | e | e | e | e | ⟨w, hw, e⟩
    · exact .inl e
    · exact .inr (.inl e)
    · exact .inr (.inr (.inl e))
    · exact .inr (.inr (.inr (.inl e)))
    · exact .inr (.inr (.inr (.inr (.inl e))))
    · exact .inr (.inr (.inr (.inr (.inr (.inl e)))))
    · exact .inr (.inr (.inr (.inr (.inr (.inr (.inl e))))))
    · exact .inr (.inr (.inr (.inr (.inr (.inr (.inr (.inl e)))))))
    · have hw : (if w = k then false else B.pr w) = true := hw
      by_cases h : w = k
      · rw [if_pos h] at hw; cases hw
      · rw [if_neg h] at hw
        exact .inr (.inr (.inr (.inr (.inr (.inr (.inr (.inr ⟨w, hw, e⟩)))))))
  · exact .inr h
/-- A step that ends its worker's call. -/
theorem TStep.ends (HO : ∀ k, K.of k < K.shards) (H : TOk W base t K S B) {k : Nat} (hk : k < K.work.length) {w' : World} {B1 : TB} (h1 : B1.pr = B.pr) (h2 : B1.hv = B.hv)
    (hT : TabIs w' base t K (S.stepN K k) (B1.endB k)) (hfp : ∀ b, B1.fp K t b → B.fp K t b ∨ W.heap.size ≤ b) (hb : But (B.fp K t) W w') (hbel : Below base W w') : TStep W base t K B (S.stepN K k) (.returned (.tuple #[])) w' := by
  have hno : ¬ (B1.endB k).pr k = true := by
    show ¬ (if k = k then false else B1.pr k) = true
    rw [if_pos rfl]; simp
  refine TStep.goes HO H hk (B' := B1.endB k) (fun w => ?_) (fun e => absurd e hno) (fun e => absurd e hno) (fun w _ => ?_) (fun e => absurd e hno) hT (fun b hbf => hfp b (endB_fp hbf)) hb hbel
  · show (if w = k then false else B1.pr w) = B.pr w ∨ w = k
    rw [h1]
    by_cases e : w = k
    · exact .inr e
    · rw [if_neg e]; exact .inl rfl
  · show B1.hv w = B.hv w
    rw [h2]
end Go.Proofs.Ytabkmdhkfbcldaa
namespace Go.Proofs.Ytabkmdhkfbcldaa
open Go.RowKit

variable {W W' : World} {base t : Nat} {K : Wk} {S : Sh} {B : TB}
set_option maxRecDepth 20000 in
set_option maxHeartbeats 2000000 in
theorem step1_any (H : TOk W base t K S B) (HK : WkOk K) (k : Nat) (hk : k < K.work.length) (hcan : S.canN K k = true) (hx : (S.hand k).at_ = 1) (hst : S.steps ≤ 1000000) (hsz : (K.own k).length ≤ 1000000) :
    Calls Try.prog 33 #[.pointer (some ⟨t, 0, none⟩), .int .i64 (k : Nat)] W (TStep W base t K B (S.stepN K k)) := by
  have HTO := hid H
  have hn := H.ok.nx hk (can_facts hcan).1
  have hp : B.pr k = true := by
    cases e : B.pr k with
    | true => rfl
    | false => have := (H.is.free k e).2; omega
  have HD := hid (done_any H.is (k : Int))
  have hdf : S.doneI K (k : Int) = false := by
    unfold Sh.doneI
    rw [Int.toNat_natCast, (can_facts hcan).1]
    simp; omega
  have HW := hid (fun (w1 : World) (hb : Below W.heap.size W w1) => twaits_any (H.is.below hb) HK (k : Int))
  have hwf : S.waitsI K (k : Int) = false := by unfold Sh.waitsI; rw [Int.toNat_natCast, (can_facts hcan).2, hdf]; rfl
  rw [hwf] at HW
  rw [hdf] at HD
  have HA := hid (fun (w1 : World) (hb : Below W.heap.size W w1) => ask_any (H.is.below hb) k hk hn)
  have HM := hid (fun (w1 : World) (hb : Below W.heap.size W w1) => H.is.hands.below hb H.is.hands.lt)
  have HL := hid (H.is.hand k hp).1
  have HZ := hid (fun w1 : World => (show (zeroValue 105).run Try.prog w1 = .ok (.pointer none) w1 by kernel_rfl))
  have hlt := (Array.getElem?_eq_some_iff.1 H.is.head).1
  obtain ⟨c0, c1, c2, c3, c4, c5, c6, c7, c8⟩ := tab_cells H.is.head
  have g4 : ∀ w', Below W.heap.size W w' → w'.cell? ⟨t, 4, none⟩ = some (.map (some B.bh)) := fun w' hb => (hb.cell (p := ⟨t, 4, none⟩) hlt).trans c4
  have HG4 := hid g4
  generalize hak : S.ask K k = ak at HA
  have HAK := hid hak
  clear hak hdf hwf c0 c1 c2 c3 c4 c5 c6 c7 c8 H g4
  go_enter Try.func33, Try.ntmps33
  go_upto_region 3 with (first
    | (go_at_call 17; (with_reducible refine HD.out.mono ?_); rintro e w1 ⟨rfl, q1, rfl⟩)
    | (go_at_call 18; (with_reducible refine (HW.out _ (below_drewN (Below.refl _ _) q1)).mono ?_); rintro e w2 ⟨rfl, hb2⟩; have HB2 := hid (below_more hb2 (below_drewN (Below.refl _ _) q1) (Nat.le_refl _)); clear hb2; have G4 := HG4.out w2 HB2.out)
    | ((with_reducible show wpList _ _ _ (⟨some 19, _, _, _, _, _⟩ :: _) _ _); refine wpList_maplook KInt Try.underlying63 rfl (.tmp 17) (.tmp 18) false rfl (.pointer none) (HZ.out _) B.bh B.hm rfl (HM.out _ HB2.out) (k : Int) rfl ?_; rw [HL.out]))
  have HW2 : Hid (Below W.heap.size W w2) := HB2.out
  have g4 := HG4.out
  have hlk : ∀ w', Below W.heap.size W w' → (Instr.lookup 63 (.map (some B.bh)) (.int .i64 (k : Nat)) false).run Try.prog w' = .ok (.pointer (some ⟨B.hb k, 0, none⟩)) w' := fun w' hb => by
    have hr := (HM.out w' hb).run_lookup KInt Try.underlying63 (HZ.out w') (k : Int) false
    rw [HL.out] at hr
    exact hr
  go_cut [4, 5] (fun v c wx => AkV W ak v wx ∧ c = .pointer (some ⟨B.hb k, 0, none⟩))
  case first =>
    refine wp_region_held_drew (S := fun w' => Below W.heap.size W w') (by kernel_rfl) HW2.out.drew (fun hHeld => ?_)
    refine wpAnyH_take (i := 0) (oi := { dst := some 24, op := Op.move (Operand.tmp 0), type := 30, pos := "shard.go:177", after := #[], guard := none }) (v := ?sav0) rfl (by kernel_rfl) (by kernel_rfl) (by kernel_rfl) (fun _ _ _ h => h) (Or.inl ⟨by rfl, ?sah0⟩) (by assumption) ?sar0
    case sah0 => ((intro w hSw; (try dsimp only at hSw); go_simp); try with_reducible rfl)
    try simp only [Act.put, List.setIfInBounds_toArray, List.set_cons_zero, List.set_cons_succ]
    refine wpAnyH_take (i := 1) (oi := { dst := some 25, op := Op.move (Operand.tmp 1), type := 3, pos := "shard.go:177", after := #[], guard := none }) (v := ?sav1) rfl (by kernel_rfl) (by kernel_rfl) (by kernel_rfl) (fun _ _ _ h => h) (Or.inl ⟨by rfl, ?sah1⟩) (by assumption) ?sar1
    case sah1 => ((intro w hSw; (try dsimp only at hSw); go_simp); try with_reducible rfl)
    try simp only [Act.put, List.setIfInBounds_toArray, List.set_cons_zero, List.set_cons_succ]
    refine wpAnyH_take (i := 3) (oi := { dst := some 27, op := Op.move (Operand.tmp 0), type := 30, pos := "shard.go:177", after := #[{ on := 10, ground := Ground.gcOnly Departure.lateStores }], guard := none }) (v := ?sav3) rfl (by kernel_rfl) (by kernel_rfl) (by kernel_rfl) (fun _ _ _ h => h) (Or.inl ⟨by rfl, ?sah3⟩) (by assumption) ?sar3
    case sah3 => ((intro w hSw; (try dsimp only at hSw); go_simp); try with_reducible rfl)
    try simp only [Act.put, List.setIfInBounds_toArray, List.set_cons_zero, List.set_cons_succ]
    refine wpAnyH_take (i := 4) (oi := { dst := some 28, op := Op.nilCheck (Operand.tmp 27), type := 0, pos := "shard.go:177", after := #[{ on := 3, ground := Ground.data }, { on := 10, ground := Ground.gcOnly Departure.lateStores }], guard := none }) (v := ?sav4) rfl (by kernel_rfl) (by kernel_rfl) (by kernel_rfl) (fun _ _ _ h => h) (Or.inl ⟨by rfl, ?sah4⟩) (by assumption) ?sar4
    case sah4 => ((intro w hSw; (try dsimp only at hSw); go_simp); try with_reducible rfl)
    try simp only [Act.put, List.setIfInBounds_toArray, List.set_cons_zero, List.set_cons_succ]
    refine wpAnyH_take (i := 5) (oi := { dst := some 29, op := Op.fieldAddr 66 (Operand.tmp 28) 4, type := 0, pos := "shard.go:177", after := #[{ on := 4, ground := Ground.data }, { on := 10, ground := Ground.gcOnly Departure.lateStores }], guard := none }) (v := ?sav5) rfl (by kernel_rfl) (by kernel_rfl) (by kernel_rfl) (fun _ _ _ h => h) (Or.inl ⟨by rfl, ?sah5⟩) (by assumption) ?sar5
    case sah5 => ((intro w hSw; (try dsimp only at hSw); go_simp); try with_reducible rfl)
    try simp only [Act.put, List.setIfInBounds_toArray, List.set_cons_zero, List.set_cons_succ]
    refine wpAnyH_take (i := 6) (oi := { dst := some 30, op := Op.load 63 (Operand.tmp 29), type := 63, pos := "shard.go:177", after := #[{ on := 5, ground := Ground.data }, { on := 10, ground := Ground.gcOnly Departure.lateStores }], guard := none }) (v := ?sav6) rfl (by kernel_rfl) (by kernel_rfl) (by kernel_rfl) (fun _ _ _ h => h) (Or.inl ⟨by rfl, ?sah6⟩) (by assumption) ?sar6
    case sah6 => ((intro w hSw; (try dsimp only at hSw); go_simp); try with_reducible rfl)
    try simp only [Act.put, List.setIfInBounds_toArray, List.set_cons_zero, List.set_cons_succ]
    refine wpAnyH_take (i := 7) (oi := { dst := some 31, op := Op.move (Operand.tmp 1), type := 3, pos := "shard.go:177", after := #[{ on := 10, ground := Ground.gcOnly Departure.lateStores }], guard := none }) (v := ?sav7) rfl (by kernel_rfl) (by kernel_rfl) (by kernel_rfl) (fun _ _ _ h => h) (Or.inl ⟨by rfl, ?sah7⟩) (by assumption) ?sar7
    case sah7 => ((intro w hSw; (try dsimp only at hSw); go_simp); try with_reducible rfl)
    try simp only [Act.put, List.setIfInBounds_toArray, List.set_cons_zero, List.set_cons_succ]
    refine wpAnyH_take (i := 8) (oi := { dst := some 32, op := Op.lookup 63 (Operand.tmp 30) (Operand.tmp 31) false, type := 105, pos := "shard.go:177", after := #[{ on := 6, ground := Ground.data }, { on := 7, ground := Ground.data }, { on := 10, ground := Ground.gcOnly Departure.lateStores }], guard := none }) (v := ?sav8) rfl (by kernel_rfl) (by kernel_rfl) (by kernel_rfl) (fun _ _ _ h => h) (Or.inl ⟨by rfl, ?sah8⟩) (by assumption) ?sar8
    case sah8 => ((intro w hSw; (try dsimp only at hSw); go_simp); try with_reducible rfl)
    try simp only [Act.put, List.setIfInBounds_toArray, List.set_cons_zero, List.set_cons_succ]
    refine wpAnyH_ready (rs := [2, 9]) (by kernel_rfl) (by simp) ?_
    refine AllReadyH.cons (o := { dst := some 26, op := Op.call { callee := Callee.value (Operand.func 42), args := #[Operand.tmp 24, Operand.tmp 25], argTypes := #[30, 3] }, type := 70, pos := "shard.go:177", after := #[{ on := 0, ground := Ground.data }, { on := 1, ground := Ground.data }], guard := none }) rfl (fun K hK => ?_) ?_
    · go_simp
      go_at_call 42; (with_reducible refine (HA.out _ (by first | exact HW2.out.drew | exact (HW2.out.alloc HW2.out.size _).drew)).mono ?_); rintro e w3 ⟨rfl, hb3⟩; have hq3 : Below W.heap.size W w3 := below_more hb3 (by first | exact HW2.out.drew | exact (HW2.out.alloc HW2.out.size _).drew) (Nat.le_refl _); try (have hblk := (hb3.block w2.heap.size (by simp)).trans (heap_alloc_new w2 _); have f0 := frozen_of_row _ _ 0 _ _ hblk; have f1 := frozen_of_row _ _ 1 _ _ hblk; have f2 := frozen_of_row _ _ 2 _ _ hblk; have z0 := cell_of_row _ _ 0 _ _ _ hblk; have z1 := cell_of_row _ _ 1 _ _ _ hblk; have z2 := cell_of_row _ _ 2 _ _ _ hblk; have HBLK := hid hblk; clear hblk); clear hb3
      refine hK.out _ _ (by assumption) (fun hHeld => ?_)
      clear hK K
      try simp only [Act.put, List.setIfInBounds_toArray, List.set_cons_zero, List.set_cons_succ]
      refine wpAnyH_ready (rs := [9]) (by kernel_rfl) (by simp) ?_
      refine AllReadyH.cons (o := { dst := some 4, op := Op.alloc 70, type := 0, pos := "shard.go:177", after := #[], guard := none }) rfl (fun K hK => ?_) AllReadyH.nil
      go_simp; refine hK.out _ _ (by first | exact (HW2.out.alloc HW2.out.size _).drew | exact hq3.alloc hq3.size _) (fun hHeld => ?_)
      clear hK K
      try simp only [Act.put, List.setIfInBounds_toArray, List.set_cons_zero, List.set_cons_succ]
      refine wpAnyH_ready (rs := [10]) (by kernel_rfl) (by simp) ?_
      refine AllReadyH.cons (o := { dst := none, op := Op.store 70 (Operand.tmp 4) (Operand.tmp 26), type := 0, pos := "shard.go:177", after := #[{ on := 9, ground := Ground.data }, { on := 2, ground := Ground.data }, { on := 2, ground := Ground.chain }, { on := 0, ground := Ground.phase }, { on := 1, ground := Ground.phase }, { on := 2, ground := Ground.phase }, { on := 3, ground := Ground.textOnly Departure.lateStores }, { on := 4, ground := Ground.textOnly Departure.lateStores }, { on := 5, ground := Ground.textOnly Departure.lateStores }, { on := 6, ground := Ground.textOnly Departure.lateStores }, { on := 7, ground := Ground.textOnly Departure.lateStores }, { on := 8, ground := Ground.textOnly Departure.lateStores }, { on := 9, ground := Ground.phase }], guard := none }) rfl (fun K hK => ?_) AllReadyH.nil
      go_simp; refine hK.out _ _ (by first | exact hq3.alloc hq3.size _ | exact ((hq3.setCell HW2.out.size _).setCell HW2.out.size _).setCell HW2.out.size _) (fun hHeld => ?_)
      clear hK K
      try simp only [Act.put, List.setIfInBounds_toArray, List.set_cons_zero, List.set_cons_succ]
      refine wpAnyH_take (i := 11) (oi := { dst := some 5, op := Op.assign (Operand.tmp 32), type := 105, pos := "shard.go:177", after := #[{ on := 8, ground := Ground.data }, { on := 10, ground := Ground.chain }, { on := 0, ground := Ground.phase }, { on := 1, ground := Ground.phase }, { on := 2, ground := Ground.phase }, { on := 3, ground := Ground.phase }, { on := 4, ground := Ground.phase }, { on := 5, ground := Ground.phase }, { on := 6, ground := Ground.phase }, { on := 7, ground := Ground.phase }, { on := 8, ground := Ground.phase }, { on := 9, ground := Ground.phase }, { on := 10, ground := Ground.phase }], guard := none }) (v := ?saav11) rfl (by kernel_rfl) (by kernel_rfl) (by kernel_rfl) (fun _ _ _ h => h) (Or.inl ⟨by rfl, ?saah11⟩) (by assumption) ?saar11
      case saah11 => ((intro w hSw; (try dsimp only at hSw); go_simp); try with_reducible rfl)
      try simp only [Act.put, List.setIfInBounds_toArray, List.set_cons_zero, List.set_cons_succ]
      refine wpAnyH_done (by kernel_rfl) ?_ _
      go_wp2_with fail
      go_meet
      first | exact ⟨⟨_, rfl, hq3.size, heap_alloc_new w3 _, hq3.alloc hq3.size _⟩, rfl⟩ | exact ⟨⟨_, rfl, HW2.out.size, heap_setCell_same _ _ 2 _ _ _ (heap_setCell_same _ _ 1 _ _ _ (heap_setCell_same _ _ 0 _ _ _ HBLK.out)), ((hq3.setCell HW2.out.size _).setCell HW2.out.size _).setCell HW2.out.size _⟩, rfl⟩
    refine AllReadyH.cons (o := { dst := some 4, op := Op.alloc 70, type := 0, pos := "shard.go:177", after := #[], guard := none }) rfl (fun K hK => ?_) AllReadyH.nil
    go_simp; refine hK.out _ _ (by first | exact (HW2.out.alloc HW2.out.size _).drew | exact hq3.alloc hq3.size _) (fun hHeld => ?_)
    clear hK K
    try simp only [Act.put, List.setIfInBounds_toArray, List.set_cons_zero, List.set_cons_succ]
    refine wpAnyH_ready (rs := [2]) (by kernel_rfl) (by simp) ?_
    refine AllReadyH.cons (o := { dst := some 26, op := Op.call { callee := Callee.value (Operand.func 42), args := #[Operand.tmp 24, Operand.tmp 25], argTypes := #[30, 3] }, type := 70, pos := "shard.go:177", after := #[{ on := 0, ground := Ground.data }, { on := 1, ground := Ground.data }], guard := none }) rfl (fun K hK => ?_) AllReadyH.nil
    go_simp
    go_at_call 42; (with_reducible refine (HA.out _ (by first | exact HW2.out.drew | exact (HW2.out.alloc HW2.out.size _).drew)).mono ?_); rintro e w3 ⟨rfl, hb3⟩; have hq3 : Below W.heap.size W w3 := below_more hb3 (by first | exact HW2.out.drew | exact (HW2.out.alloc HW2.out.size _).drew) (Nat.le_refl _); try (have hblk := (hb3.block w2.heap.size (by simp)).trans (heap_alloc_new w2 _); have f0 := frozen_of_row _ _ 0 _ _ hblk; have f1 := frozen_of_row _ _ 1 _ _ hblk; have f2 := frozen_of_row _ _ 2 _ _ hblk; have z0 := cell_of_row _ _ 0 _ _ _ hblk; have z1 := cell_of_row _ _ 1 _ _ _ hblk; have z2 := cell_of_row _ _ 2 _ _ _ hblk; have HBLK := hid hblk; clear hblk); clear hb3
    refine hK.out _ _ (by assumption) (fun hHeld => ?_)
    clear hK K
    try simp only [Act.put, List.setIfInBounds_toArray, List.set_cons_zero, List.set_cons_succ]
    refine wpAnyH_ready (rs := [10]) (by kernel_rfl) (by simp) ?_
    refine AllReadyH.cons (o := { dst := none, op := Op.store 70 (Operand.tmp 4) (Operand.tmp 26), type := 0, pos := "shard.go:177", after := #[{ on := 9, ground := Ground.data }, { on := 2, ground := Ground.data }, { on := 2, ground := Ground.chain }, { on := 0, ground := Ground.phase }, { on := 1, ground := Ground.phase }, { on := 2, ground := Ground.phase }, { on := 3, ground := Ground.textOnly Departure.lateStores }, { on := 4, ground := Ground.textOnly Departure.lateStores }, { on := 5, ground := Ground.textOnly Departure.lateStores }, { on := 6, ground := Ground.textOnly Departure.lateStores }, { on := 7, ground := Ground.textOnly Departure.lateStores }, { on := 8, ground := Ground.textOnly Departure.lateStores }, { on := 9, ground := Ground.phase }], guard := none }) rfl (fun K hK => ?_) AllReadyH.nil
    go_simp; refine hK.out _ _ (by first | exact hq3.alloc hq3.size _ | exact ((hq3.setCell HW2.out.size _).setCell HW2.out.size _).setCell HW2.out.size _) (fun hHeld => ?_)
    clear hK K
    try simp only [Act.put, List.setIfInBounds_toArray, List.set_cons_zero, List.set_cons_succ]
    refine wpAnyH_take (i := 11) (oi := { dst := some 5, op := Op.assign (Operand.tmp 32), type := 105, pos := "shard.go:177", after := #[{ on := 8, ground := Ground.data }, { on := 10, ground := Ground.chain }, { on := 0, ground := Ground.phase }, { on := 1, ground := Ground.phase }, { on := 2, ground := Ground.phase }, { on := 3, ground := Ground.phase }, { on := 4, ground := Ground.phase }, { on := 5, ground := Ground.phase }, { on := 6, ground := Ground.phase }, { on := 7, ground := Ground.phase }, { on := 8, ground := Ground.phase }, { on := 9, ground := Ground.phase }, { on := 10, ground := Ground.phase }], guard := none }) (v := ?sabv11) rfl (by kernel_rfl) (by kernel_rfl) (by kernel_rfl) (fun _ _ _ h => h) (Or.inl ⟨by rfl, ?sabh11⟩) (by assumption) ?sabr11
    case sabh11 => ((intro w hSw; (try dsimp only at hSw); go_simp); try with_reducible rfl)
    try simp only [Act.put, List.setIfInBounds_toArray, List.set_cons_zero, List.set_cons_succ]
    refine wpAnyH_done (by kernel_rfl) ?_ _
    go_wp2_with fail
    go_meet
    first | exact ⟨⟨_, rfl, hq3.size, heap_alloc_new w3 _, hq3.alloc hq3.size _⟩, rfl⟩ | exact ⟨⟨_, rfl, HW2.out.size, heap_setCell_same _ _ 2 _ _ _ (heap_setCell_same _ _ 1 _ _ _ (heap_setCell_same _ _ 0 _ _ _ HBLK.out)), ((hq3.setCell HW2.out.size _).setCell HW2.out.size _).setCell HW2.out.size _⟩, rfl⟩
  case rest =>
    obtain ⟨⟨b, rfl, hbz, hbb, hbc⟩, rfl⟩ := hcut
    clear hlk g4
    have HBC := hid hbc
    have HBB := hid hbb
    have hT := HTO.out.is.below hbc
    have htb : t ≠ b := by have := hlt; omega
    have hh1 := hT.head
    obtain ⟨c0, c1, c2, c3, c4, c5, c6, c7, c8⟩ := tab_cells hh1
    have cf8 := frozen_of_row _ _ 8 _ _ hh1
    have HT := hid hT
    clear c0 c1 c2 c3 c4 c5 c6 c7 hh1 hbc hbb hT
    go_upto_region 5 with fail
    obtain ⟨W4, hW4⟩ : ∃ W4, W4 = wc.setCell ⟨t, 8, none⟩ (.int .i64 ((S.steps : Nat) + 1)) := ⟨_, rfl⟩
    rw [← hW4]
    have HO4 : Hid (∀ j, j ≠ t → W4.heap[j]? = wc.heap[j]?) := fun j hj => by rw [hW4]; exact heap_setCell_other _ _ _ _ hj
    have HH4 : Hid (W4.heap[t]? = some (tabO B K (S.steps + 1))) := by
      rw [hW4]
      have e := heap_setCell_same wc t 8 _ _ (.int .i64 ((S.steps : Nat) + 1)) HT.out.head
      have e2 : ((S.steps + 1 : Nat) : Int) = (S.steps : Int) + 1 := by omega
      unfold tabO
      rw [e2]
      exact e
    have HZ4 : Hid (W4.heap.size = wc.heap.size) := by rw [hW4]; simp [Hid]
    have HB4 : Hid (Below base wc W4) := by rw [hW4]; exact (Below.refl _ _).setCell (HTO.out.is.ap t (.inl rfl)).2.1 _
    clear hW4 c8 cf8
    have hgt : B.hb k ≠ t := tag_ne (HT.out.tagHand k hp) HT.out.tagT (by decide)
    have hG4 : W4.heap[B.hb k]? = some (handO (S.hand k) (B.hv k)) := (HO4.out _ hgt).trans (HT.out.hand k hp).2
    have hA4 : W4.heap[b]? = some (.cells #[.int .i64 ak.kind, .string ak.key, .int .i64 ak.value] 70 (0, 0)) := (HO4.out _ (Ne.symm htb)).trans HBB.out
    have hgb : b ≠ B.hb k := by have := (HTO.out.is.ap _ (.inr (.inr (.inr (.inr (.inr (.inr (.inr (.inr ⟨k, hp, rfl⟩))))))))).2.2; omega
    have q1 : W4.cell? ⟨B.hb k, 1, none⟩ = some (.int .i64 ((S.hand k).at_ : Nat)) := cell_of_row _ _ 1 _ _ _ hG4
    rw [hx] at q1
    have HG4' := hid hG4
    have HA4 := hid hA4
    have hbeg : base ≤ B.hb k := (HTO.out.is.ap _ (.inr (.inr (.inr (.inr (.inr (.inr (.inr (.inr ⟨k, hp, rfl⟩))))))))).2.1
    have HV4 : Hid (MapIs Value.string (Value.int .i64) W4 B.bv B.vm) := by
      obtain ⟨es, c, he, F⟩ := HT.out.vals
      exact ⟨es, c, (HO4.out _ (tag_ne (map_tag HT.out.vals) HT.out.tagT (by decide))).trans he, F⟩
    have HD4 : Hid (MapIs Value.string Value.bool W4 B.bt B.tm) := by
      obtain ⟨es, c, he, F⟩ := HT.out.told
      exact ⟨es, c, (HO4.out _ (tag_ne (map_tag HT.out.told) HT.out.tagT (by decide))).trans he, F⟩
    have hvg : B.bv ≠ B.hb k := tag_ne (map_tag HT.out.vals) (HT.out.tagHand k hp) (by decide)
    have hdg : B.bt ≠ B.hb k := tag_ne (map_tag HT.out.told) (HT.out.tagHand k hp) (by decide)
    go_upto_region 11 with fail
    have y2 : W4.cell? ⟨B.hb k, 2, none⟩ = some (.bool (S.hand k).found) := cell_of_row _ _ 2 _ _ _ hG4
    have y3 : W4.cell? ⟨B.hb k, 3, none⟩ = some (.int .i64 (B.hv k)) := cell_of_row _ _ 3 _ _ _ hG4
    have yf1 : W4.frozen? ⟨B.hb k, 1, none⟩ = false := frozen_of_row _ _ 1 _ _ hG4
    have yf2 : W4.frozen? ⟨B.hb k, 2, none⟩ = false := frozen_of_row _ _ 2 _ _ hG4
    have yf3 : W4.frozen? ⟨B.hb k, 3, none⟩ = false := frozen_of_row _ _ 3 _ _ hG4
    have a0 : ∀ w', DS W4 (B.hb k) w' → w'.cell? ⟨b, 0, none⟩ = some (.int .i64 ak.kind) := fun w' h => (h.cell hgb).trans (cell_of_row _ _ 0 _ _ _ hA4)
    have a1 : ∀ w', DS W4 (B.hb k) w' → w'.cell? ⟨b, 1, none⟩ = some (.string ak.key) := fun w' h => (h.cell hgb).trans (cell_of_row _ _ 1 _ _ _ hA4)
    have a5 : ∀ w', DS W4 (B.hb k) w' → w'.cell? ⟨t, 5, none⟩ = some (.map (some B.bv)) := fun w' h => (h.cell (Ne.symm hgt)).trans (cell_of_row W4 _ 5 _ _ _ HH4.out)
    have hlk : ∀ w', DS W4 (B.hb k) w' → (Instr.lookup 57 (.map (some B.bv)) (.string ak.key) true).run Try.prog w' = .ok (.tuple #[.int .i64 ((S.get ak.key).getD 0), .bool (S.get ak.key).isSome]) w' := fun w' h => by
      have hm : MapIs Value.string (Value.int .i64) w' B.bv B.vm := by
        obtain ⟨es, c, he, F⟩ := HV4.out
        exact ⟨es, c, (h.b _ hvg).trans he, F⟩
      have hr := hm.run_lookup KStr Try.underlying57 (show (zeroValue 2).run Try.prog w' = .ok (.int .i64 0) w' by kernel_rfl) ak.key true
      rw [HTO.out.is.valIs] at hr
      cases e : S.get ak.key <;> rw [e] at hr <;> exact hr
    have HFIN : Hid (∀ w' : World, DS W4 (B.hb k) w' → Below base W4 w' → w'.heap[B.hb k]? = some (handO ⟨if ak.kind = 1 ∧ S.get ak.key = none then 2 else 4, (S.get ak.key).isSome, (S.hand k).call⟩ ((S.get ak.key).getD 0)) → TStep W base t K B (S.stepN K k) (.returned (.tuple #[])) w') := fun w' hds hbel hg => by
      have hsi : S.stepN K k = S.poke k ⟨if ak.kind = 1 ∧ S.get ak.key = none then 2 else 4, (S.get ak.key).isSome, (S.hand k).call⟩ S.rows (S.steps + 1) := by
        rw [step_is hcan]; unfold Sh.body; simp only [hx, HAK.out]; rfl
      refine TStep.poked (TabIs.shLt HK) HTO.out hk hp HBC.out ⟨if ak.kind = 1 ∧ S.get ak.key = none then 2 else 4, (S.get ak.key).isSome, (S.hand k).call⟩ ((S.get ak.key).getD 0) S.rows B.vm B.tm hsi ?_ ?_ ?_ (HB4.out.trans hbel) ?_ hg ?_ HTO.out.is.valIs ?_ HTO.out.is.toldIs
      · dsimp only; split <;> omega
      · intro _ hf
        rw [hsi, HAK.out]
        show S.get ak.key = _
        cases e : S.get ak.key with
        | none => rw [e] at hf; cases hf
        | some v => rfl
      · refine ⟨fun j _ hj => ?_, by rw [hds.s, HZ4.out]; exact Nat.le_refl _⟩
        exact (hds.b j (fun e => hj (.inr (.inl e)))).trans (HO4.out j (fun e => hj (.inl e)))
      · exact (hds.b t (Ne.symm hgt)).trans HH4.out
      · obtain ⟨es, c, he, F⟩ := HV4.out
        exact ⟨es, c, (hds.b _ hvg).trans he, F⟩
      · obtain ⟨es, c, he, F⟩ := HD4.out
        exact ⟨es, c, (hds.b _ hdg).trans he, F⟩
    generalize hgo : S.get ak.key = go at *
    have HGO := hid hgo
    clear hgo
    clear hG4 hA4
    have hDS : DS W4 (B.hb k) W4.drew := ⟨rfl, fun _ _ => rfl⟩
    go_region_held3 (fun w' => DS W4 (B.hb k) w') (first | (with_reducible assumption) | (with_reducible ((repeat (first | refine DS.drew ?_ | refine DS.set ?_ _ _)); exact DS.refl _ _))) (first | fail)
    clear a0 a1 a5 hlk
    obtain ⟨W5, hW5⟩ : ∃ W5, W5 = ((W4.setCell ⟨B.hb k, 3, none⟩ (.int .i64 (go.getD 0))).setCell ⟨B.hb k, 2, none⟩ (.bool go.isSome)).drew := ⟨_, rfl⟩
    rw [← hW5]
    have HDS : Hid (DS W4 (B.hb k) W5) := by rw [hW5]; exact (((DS.refl W4 _).set _ _).set _ _).drew
    have HBS : Hid (Below base W4 W5) := by rw [hW5]; exact (((Below.refl _ W4).setCell hbeg _).setCell hbeg _).drew
    have hgs : W5.heap[B.hb k]? = some (.cells #[.int .i64 ((S.hand k).call : Nat), .int .i64 ((S.hand k).at_ : Nat), .bool go.isSome, .int .i64 (go.getD 0)] 107 (0, 0)) := by rw [hW5]; exact heap_setCell_same _ _ 2 _ _ _ (heap_setCell_same _ _ 3 _ _ _ HG4'.out)
    clear hW5 y2 y3 yf1 yf2 yf3
    have yb0 : W5.cell? ⟨b, 0, none⟩ = some (.int .i64 ak.kind) := (HDS.out.cell hgb).trans (cell_of_row _ _ 0 _ _ _ HA4.out)
    have y1 : W5.cell? ⟨B.hb k, 1, none⟩ = some (.int .i64 ((S.hand k).at_ : Nat)) := cell_of_row _ _ 1 _ _ _ hgs
    have y2 : W5.cell? ⟨B.hb k, 2, none⟩ = some (.bool go.isSome) := cell_of_row _ _ 2 _ _ _ hgs
    have yf1 : W5.frozen? ⟨B.hb k, 1, none⟩ = false := frozen_of_row _ _ 1 _ _ hgs
    have HGS := hid hgs
    clear hgs
    by_cases hk1 : ak.kind = 1
    · rw [hk1] at yb0
      cases go with
      | none =>
        go_wp2_with fail
        refine bodyPost_end (v := .tuple #[]) (by simp [results, Try.results33, go_sem]) rfl ?_
        refine HFIN.out _ (by with_reducible first | exact HDS.out.set _ _ | exact (HDS.out.set _ _).set _ _) (by with_reducible first | exact HBS.out.setCell hbeg _ | exact (HBS.out.setCell hbeg _).setCell hbeg _) ?_
        rw [if_pos (by simp [hk1])]
        first | ((with_reducible refine (heap_setCell_same _ _ 1 _ _ _ HGS.out).trans ?_); rfl) | ((with_reducible refine (heap_setCell_same _ _ 1 _ _ _ (heap_setCell_same _ _ 1 _ _ _ HGS.out)).trans ?_); rfl)
      | some v =>
        go_wp2_with fail
        refine bodyPost_end (v := .tuple #[]) (by simp [results, Try.results33, go_sem]) rfl ?_
        refine HFIN.out _ (by with_reducible first | exact HDS.out.set _ _ | exact (HDS.out.set _ _).set _ _) (by with_reducible first | exact HBS.out.setCell hbeg _ | exact (HBS.out.setCell hbeg _).setCell hbeg _) ?_
        rw [if_neg (by simp)]
        first | ((with_reducible refine (heap_setCell_same _ _ 1 _ _ _ HGS.out).trans ?_); rfl) | ((with_reducible refine (heap_setCell_same _ _ 1 _ _ _ (heap_setCell_same _ _ 1 _ _ _ HGS.out)).trans ?_); rfl)
    · have hkb : (ak.kind == 1) = false := by simpa using hk1
      have hkd : decide (ak.kind = 1) = false := by simpa using hk1
      go_wp2_with fail
      refine bodyPost_end (v := .tuple #[]) (by simp [results, Try.results33, go_sem]) rfl ?_
      refine HFIN.out _ (by with_reducible first | exact HDS.out.set _ _ | exact (HDS.out.set _ _).set _ _) (by with_reducible first | exact HBS.out.setCell hbeg _ | exact (HBS.out.setCell hbeg _).setCell hbeg _) ?_
      rw [if_neg (by simp [hk1])]
      first | ((with_reducible refine (heap_setCell_same _ _ 1 _ _ _ HGS.out).trans ?_); rfl) | ((with_reducible refine (heap_setCell_same _ _ 1 _ _ _ (heap_setCell_same _ _ 1 _ _ _ HGS.out)).trans ?_); rfl)
end Go.Proofs.Ytabkmdhkfbcldaa
