/-
 Waits of the code's table.
 Blocks of unlike kinds lie apart; what stays where some blocks are written.
 A call begins: what lies where then.
 A call ends: what lies where then.
 A map's update and lookup as steps of a region held by hand.
 begins: the walk.
 delete of a map, at the operation.
-/
import Derived.Test.YtabkmdhkfbcldaaGreatJL4
import Derived.Test.YtabkmdhkfbcldaaGreatJL0
namespace Go.Proofs.YtabkmdhkfbcldaaGreat
open Go.RowKit
variable {W : World} {base t : Nat} {K : Wk} {S : Sh} {B : TB}
theorem TabIs.lockOk (h : TabIs W base t K S B) (i : Nat) (hi : i < K.shards) : S.locks.getD i (-1) = -1 ∨ isW (S.locks.getD i (-1)) = true := by
 obtain ⟨v, ys, H⟩ := h.mem
 have hl : i < S.locks.length := by rw [h.lkl]; exact hi
 have e : S.locks.getD i (-1) = S.locks[i] := by simp [List.getD_eq_getElem?_getD, hl]
 rw [e]
 have hm : lockCe S.locks[i] ∈ B.lm.cs := by rw [h.lm]; exact List.mem_map_of_mem (List.getElem_mem hl)
 rw [H.cs] at hm
 obtain ⟨y, hy, hye⟩ := List.mem_map.1 hm
 have hk := H.ok y hy
 rw [hye] at hk
 simp [okP, lockCe] at hk
 exact hk.imp of_decide_eq_true id
theorem TabIs.look (h : TabIs W base t K S B) (i : Nat) (hi : i < K.shards) (wk kind : Int) (hw : isW wk = true) : B.lm.look wk ⟨kind, (i : Nat), 0, 0⟩ = stepP (lockCe (S.locks.getD i (-1))) wk ⟨kind, (i : Nat), 0, 0⟩ := by
 have hl : i < S.locks.length := by rw [h.lkl]; exact hi
 have hlc : B.lm.cs.length = S.locks.length := by rw [h.lm, List.length_map]
 unfold Mem.look
 rw [if_neg (by rw [hlc]; simp; omega)]
 have e : B.lm.cs.getD (Int.toNat ((i : Nat) : Int)) ce0 = lockCe (S.locks.getD i (-1)) := by
  rw [Int.toNat_natCast, h.lm]; simp [List.getD_eq_getElem?_getD, hl]
 dsimp only
 rw [e]
 unfold oneP
 have hok : okP (lockCe (S.locks.getD i (-1))) = true := by
  have := h.lockOk i hi
  simp [okP, lockCe]
  simpa using this
 rw [if_neg (by rw [hok]; simp), if_neg (by rw [hw]; simp)]
theorem TabIs.waitsLock (h : TabIs W base t K S B) (i : Nat) (hi : i < K.shards) (k : Nat) (hk : k < 64) : ((B.lm.look (k : Int) ⟨3, (i : Nat), 0, 0⟩).2.2 == 231) = (decide (0 ≤ S.locks.getD i (-1)) && decide (S.locks.getD i (-1) ≠ k)) := by
 rw [h.look i hi (k : Int) 3 (by unfold isW; simp; omega)]
 have ho := h.lockOk i hi
 generalize S.locks.getD i (-1) = o at *
 unfold isW at ho
 simp at ho
 simp [stepP, lockCe]
 by_cases h1 : o = k
 ·simp [h1]
 ·by_cases h2 : o = -1
  ·simp [h1, h2]
  ·simp [h1, h2]; omega
def Sh.waitsI (S : Sh) (K : Wk) (w : Int) : Bool := !S.doneI K w && S.waitsN K w.toNat
theorem TabIs.shLt (HK : WkOk K) (key : ByteArray) : K.of key < K.shards := by
 have h1 := HK.ofs key
 have h2 := HK.sh
 have h3 := of_facts (h := hashF key) (n := (K.shards : Nat)) (hash_in key key.size) (by omega) (by omega)
 unfold ofF at h1
 rw [if_neg (by omega)] at h1
 omega
set_option maxRecDepth 20000 in
set_option maxHeartbeats 1000000 in
theorem twaits_any (h : TabIs W base t K S B) (HK : WkOk K) (w : Int) : Calls Tryz.prog 23 #[.pointer (some ⟨t, 0, none⟩), .int .i64 w] W fun e w' => e = .returned (.bool (S.waitsI K w)) ∧ Below W.heap.size W w' := by
 have HD := hid (done_any h w)
 by_cases hd : S.doneI K w = true
 ·have hv : S.waitsI K w = false := by unfold Sh.waitsI; rw [hd]; rfl
  rw [hv]
  rw [hd] at HD
  clear hv hd h
  go_enter Tryz.func23, Tryz.ntmps23
  go_wp2_with (go_at_call 17; (with_reducible refine HD.out.mono ?_); rintro e w1 ⟨rfl, q1, rfl⟩)
  go_ret
  exact ⟨rfl, below_drewN (Below.refl _ _) _⟩
 ·have hd : S.doneI K w = false := by simpa using hd
  rw [hd] at HD
  obtain ⟨k, rfl⟩ : ∃ k : Nat, w = k := ⟨w.toNat, by unfold Sh.doneI at hd; simp at hd; omega⟩
  have hk : k < K.work.length := by unfold Sh.doneI at hd; simp at hd; omega
  have hdn : S.doneN K k = false := by unfold Sh.doneI at hd; simp at hd; exact hd.2
  have hn : S.next.getD k 0 < (K.own k).length := by
   have h1 := h.nxt k hk
   unfold Sh.doneN at hdn
   simp only [Bool.or_eq_false_iff, decide_eq_false_iff_not] at hdn
   omega
  have HN := hid (fun (w1 : World) (hb : Below W.heap.size W w1) => next_any (h.below hb) k)
  have hv : S.waitsI K (k : Int) = match (S.hand k).at_ with
   | 0 => decide (0 ≤ S.lockOf K k) && decide (S.lockOf K k ≠ k)
   | 5 => !S.toldN (S.ask K k).key
   | _ => false := by
   unfold Sh.waitsI Sh.waitsN
   rw [hd, Int.toNat_natCast, hdn]; rfl
  rw [hv]
  clear hv
  have hlt := (Array.getElem?_eq_some_iff.1 h.head).1
  obtain ⟨c0, c1, c2, c3, c4, c5, c6, c7, c8⟩ := tab_cells h.head
  by_cases hx0 : (S.hand k).at_ = 0
  ·have HL := hid (fun (w1 : World) (hb : Below W.heap.size W w1) => tlock_any (h.below hb) HK k hk hn 3)
   have HM := hid (fun (w1 : World) (hb : Below W.heap.size W w1) => mwaits_any (h.mem.below hb) (k : Int) ⟨3, (K.of (S.ask K k).key : Nat), 0, 0⟩)
   have hwl := h.waitsLock (K.of (S.ask K k).key) (TabIs.shLt HK _) k (by have := HK.wn; omega)
   rw [hwl] at HM
   rw [hx0] at HN ⊢
   have g0 : ∀ w', Below W.heap.size W w' → w'.cell? ⟨t, 0, none⟩ = some (.pointer (some ⟨B.m, 0, none⟩)) := fun w' hb => (hb.cell (p := ⟨t, 0, none⟩) hlt).trans c0
   unfold Sh.lockOf
   generalize (⟨3, (K.of (S.ask K k).key : Nat), 0, 0⟩ : Ac) = ac at *
   generalize (decide (0 ≤ S.locks.getD (K.of (S.ask K k).key) (-1)) && decide (S.locks.getD (K.of (S.ask K k).key) (-1) ≠ k)) = r at *
   generalize ac.val = av at *
   clear hwl hx0 c0 c1 c2 c3 c4 c5 c6 c7 c8 h hn hk HK hd hdn
   go_enter Tryz.func23, Tryz.ntmps23
   go_upto_region 5 with (first
    | (go_at_call 17; (with_reducible refine HD.out.mono ?_); rintro e w1 ⟨rfl, q1, rfl⟩)
    | (go_at_call 40; (with_reducible refine (HN.out _ (below_drewN (Below.refl _ _) _)).mono ?_); rintro e w1 ⟨rfl, rfl⟩))
   go_region_held3 (fun w' => Below W.heap.size W w') (first | (with_reducible assumption) | exact (below_drewN (Below.refl _ _) _) | exact (below_drewN (Below.refl _ _) _).drew) (first
    | (go_at_call 27; with_reducible refine (HL.out _ ?_).mono ?_; (first | assumption | exact below_drewN (Below.refl _ _) _); rintro e w' ⟨rfl, hbq⟩; have hq2 : Below W.heap.size W w' := below_more hbq (by first | assumption | exact below_drewN (Below.refl _ _) _) (Nat.le_refl _); clear hbq)
    | (go_at_call 41; with_reducible refine (HM.out _ ?_).mono ?_; (assumption); rintro e w' ⟨rfl, hbq⟩; have hq2 : Below W.heap.size W w' := below_more hbq (by assumption) (Nat.le_refl _); clear hbq))
   all_goals (go_wp2_with fail; go_ret; exact ⟨rfl, by assumption⟩)
  ·have HW0 := hid hd
   by_cases hx5 : (S.hand k).at_ = 5
   ·have HA := hid (fun (w1 : World) (hb : Below W.heap.size W w1) => ask_any (h.below hb) k hk hn)
    have hlk : ∀ w', Below W.heap.size W w' → (Instr.lookup 55 (.map (some B.bt)) (.string (S.ask K k).key) false).run Tryz.prog w' = .ok (.bool (S.toldN (S.ask K k).key)) w' := fun w' hb => by
     have hr := (h.told.below hb h.told.lt).run_lookup KStr Tryz.underlying55 (show (zeroValue 4).run Tryz.prog w' = .ok (.bool false) w' by kernel_rfl) (S.ask K k).key false
     have e : ((alook B.tm (S.ask K k).key).map Value.bool).getD (.bool false) = .bool (S.toldN (S.ask K k).key) := by
      rw [← h.toldIs]; cases alook B.tm (S.ask K k).key <;> rfl
     simp only [Bool.false_eq_true, if_false, e] at hr
     exact hr
    rw [hx5] at HN ⊢
    have g6 : ∀ w', Below W.heap.size W w' → w'.cell? ⟨t, 6, none⟩ = some (.map (some B.bt)) := fun w' hb => (hb.cell (p := ⟨t, 6, none⟩) hlt).trans c6
    generalize S.toldN (S.ask K k).key = tb at *
    generalize S.ask K k = ak at *
    have hfd : ∀ w : World, (Instr.field 46 (.agg #[.int .i64 ak.kind, .string ak.key, .int .i64 ak.value]) 1).run Tryz.prog w = .ok (.string ak.key) w := fun _ => by kernel_rfl
    clear hx0 hx5 c0 c1 c2 c3 c4 c5 c6 c7 c8 h hn hk HK hd hdn
    go_enter Tryz.func23, Tryz.ntmps23
    go_upto_region 7 with (first
     | (go_at_call 17; (with_reducible refine HD.out.mono ?_); rintro e w1 ⟨rfl, q1, rfl⟩)
     | (go_at_call 40; (with_reducible refine (HN.out _ (below_drewN (Below.refl _ _) _)).mono ?_); rintro e w1 ⟨rfl, rfl⟩))
    go_region_held3 (fun w' => Below W.heap.size W w') (first | (with_reducible assumption) | exact (below_drewN (Below.refl _ _) _) | exact (below_drewN (Below.refl _ _) _).drew) (first
     | (go_at_call 25; with_reducible refine (HA.out _ ?_).mono ?_; (first | assumption | exact below_drewN (Below.refl _ _) _); rintro e w' ⟨rfl, hbq⟩; have hq2 : Below W.heap.size W w' := below_more hbq (by first | assumption | exact below_drewN (Below.refl _ _) _) (Nat.le_refl _); clear hbq))
    all_goals (go_wp2_with fail; go_ret; exact ⟨rfl, by assumption⟩)
   ·have hv : (match (S.hand k).at_ with
     | 0 => decide (0 ≤ S.lockOf K k) && decide (S.lockOf K k ≠ k)
     | 5 => !S.toldN (S.ask K k).key
     | _ => false) = false := by split <;> first | omega | rfl
    rw [hv]
    generalize (S.hand k).at_ = x at *
    have x0 : ((x : Int) == 0) = false := by simp; omega
    have x5 : ((x : Int) == 5) = false := by simp; omega
    clear hx0 hx5 hv c0 c1 c2 c3 c4 c5 c6 c7 c8 h hn hk HK hd hdn
    go_enter Tryz.func23, Tryz.ntmps23
    go_wp2_with (first
     | (go_at_call 17; (with_reducible refine HD.out.mono ?_); rintro e w1 ⟨rfl, q1, rfl⟩)
     | (go_at_call 40; (with_reducible refine (HN.out _ (below_drewN (Below.refl _ _) _)).mono ?_); rintro e w1 ⟨rfl, rfl⟩))
    go_ret
    exact ⟨rfl, below_drewN (Below.refl _ _) _⟩
end Go.Proofs.YtabkmdhkfbcldaaGreat
namespace Go.Proofs.YtabkmdhkfbcldaaGreat
open Go.RowKit
def tagO : Obj → Nat
 | .cells _ T _ => T + 1
 | _ => 0
def tagAt (W : World) (b : Nat) : Option Nat := (W.heap[b]?).map tagO
variable {W W' : World} {base t : Nat} {K : Wk} {S : Sh} {B : TB}
theorem tag_ne {a b x y : Nat} (ha : tagAt W a = some x) (hb : tagAt W b = some y) (h : x ≠ y) : a ≠ b := fun e => by
 subst e; rw [ha] at hb; exact h (Option.some.inj hb)
theorem own_tag {e : TypeId} {size n g : Nat} {v : Value} {xs : List Value} (h : W.ownsRow base e size v n xs) (hg : v.ownBlock = some g) : tagAt W g = some (e + 1) := by
 rcases h.2 with ⟨rfl, _⟩ | ⟨g', cap, cur, rfl, _, hh, _⟩
 ·cases hg
 ·have : g' = g := by simpa [Value.ownBlock] using hg
  subst this
  unfold tagAt; rw [hh]; rfl
theorem map_tag {κ β : Type} {mk : κ → Value} {mv : β → Value} {b : Nat} {m : List (κ × β)} (h : MapIs mk mv W b m) : tagAt W b = some 0 := by
 obtain ⟨es, c, hb, _⟩ := h
 unfold tagAt; rw [hb]; rfl
theorem TabIs.tagT (h : TabIs W base t K S B) : tagAt W t = some (58 + 1) := by unfold tagAt; rw [h.head]; rfl
theorem TabIs.tagHand (h : TabIs W base t K S B) (w : Nat) (hp : B.pr w = true) : tagAt W (B.hb w) = some (71 + 1) := by unfold tagAt; rw [(h.hand w hp).2]; rfl
structure But (X : Nat → Prop) (W W' : World) : Prop where
 keep : ∀ b, b < W.heap.size → ¬ X b → W'.heap[b]? = W.heap[b]?
 size : W.heap.size ≤ W'.heap.size
theorem MapIs.but {κ β : Type} {mk : κ → Value} {mv : β → Value} {X : Nat → Prop} {b : Nat} {m : List (κ × β)} (h : MapIs mk mv W b m) (hb : But X W W') (hx : ¬ X b) : MapIs mk mv W' b m := by
 have hl := h.lt
 obtain ⟨es, c, hm, F⟩ := h
 exact ⟨es, c, (hb.keep b hl hx).trans hm, F⟩
theorem own_but {X : Nat → Prop} {e : TypeId} {size n : Nat} {v : Value} {xs : List Value} (h : W.ownsRow base e size v n xs) (hb : But X W W') (hx : ∀ g, v.ownBlock = some g → ¬ X g) : W'.ownsRow base e size v n xs :=
 own_blk h (fun g hg => hb.keep g (own_lt h g hg) (hx g hg))
theorem MMach.but {X : Nat → Prop} {hd : Value → Int → Obj} {M : Mem} {d : Nat} {fp : Nat → Prop} (h : MMach W base d hd M fp) (hb : But X W W') (hx : ∀ g, fp g → ¬ X g) : MMach W' base d hd M fp := by
 obtain ⟨v, ys, H⟩ := h
 exact ⟨v, ys, H.kept (fun k hk => hb.keep k (H.lt k hk) (hx k hk)) hb.size⟩
def TB.wr (B : TB) (t b : Nat) : Prop := b = t ∨ b = B.bh ∨ b = B.bv ∨ b = B.bt ∨ B.va.ownBlock = some b ∨ B.vp.ownBlock = some b ∨ ∃ w, B.pr w = true ∧ B.hb w = b
theorem TabIs.wr_mine {b : Nat} (h : B.wr t b) : B.mine K t b := by
 rcases h with h | h | h | h | h | h | ⟨w, h1, h2⟩
 ·exact .inl h
 ·exact .inr (.inl h)
 ·exact .inr (.inr (.inl h))
 ·exact .inr (.inr (.inr (.inl h)))
 ·exact .inr (.inr (.inr (.inr (.inr (.inl h)))))
 ·exact .inr (.inr (.inr (.inr (.inr (.inr (.inl h))))))
 ·exact .inr (.inr (.inr (.inr (.inr (.inr (.inr (.inr ⟨w, h1, h2⟩)))))))
theorem TabIs.work_wr (h : TabIs W base t K S B) {g x : Nat} (hg : tagAt W g = some x) (hx : x = 47 + 1 ∨ x = 46 + 1) : ¬ B.wr t g := by
 rintro (e | e | e | e | e | e | ⟨w, h1, e⟩)
 ·exact tag_ne hg h.tagT (by rcases hx with rfl | rfl <;> decide) e
 ·exact tag_ne hg (map_tag h.hands) (by rcases hx with rfl | rfl <;> decide) e
 ·exact tag_ne hg (map_tag h.vals) (by rcases hx with rfl | rfl <;> decide) e
 ·exact tag_ne hg (map_tag h.told) (by rcases hx with rfl | rfl <;> decide) e
 ·exact tag_ne hg (own_tag h.ats e) (by rcases hx with rfl | rfl <;> decide) rfl
 ·exact tag_ne hg (own_tag h.past e) (by rcases hx with rfl | rfl <;> decide) rfl
 ·exact tag_ne hg (h.tagHand w h1) (by rcases hx with rfl | rfl <;> decide) e.symm
theorem TabIs.kept (h : TabIs W base t K S B) (hb : But (B.wr t) W W') : MMach W' base B.m hdM B.lm B.fm ∧ W'.ownsRow base 47 1 B.vw K.work.length (List.zipWith wkV K.work B.ws) ∧ ∀ w, w < K.work.length → W'.ownsRow base 46 3 (B.ask K w) (K.own w).length ((K.own w).flatMap Ak.cells) :=
 ⟨h.mem.but hb (fun g hg hx => (h.ap g (TabIs.wr_mine hx)).1 hg), own_but h.work hb (fun g hg => h.work_wr (own_tag h.work hg) (.inl rfl)), fun w hw => own_but (h.asks w hw) hb (fun g hg => h.work_wr (own_tag (h.asks w hw) hg) (.inr rfl))⟩
end Go.Proofs.YtabkmdhkfbcldaaGreat
namespace Go.Proofs.YtabkmdhkfbcldaaGreat
open Go.RowKit
variable {W W' : World} {base t : Nat} {K : Wk} {S : Sh} {B : TB}
theorem setH_hand (S : Sh) (k : Nat) (hk : k < S.hands.length) (x : Hn) (w : Nat) : (S.setH k x).hand w = if w = k then x else S.hand w := by
 show (S.hands.set k x).getD w hn0 = if w = k then x else S.hands.getD w hn0
 rw [List.getD_eq_getElem?_getD, List.getElem?_set]
 by_cases e : w = k
 ·subst e; simp [hk]
 ·rw [if_neg e, if_neg (fun h => e h.symm), ← List.getD_eq_getElem?_getD]
def TB.begin (B : TB) (k nb : Nat) (vp' : Value) : TB :=
 { B with vp := vp', hm := aset B.hm (k : Int) (.pointer (some ⟨nb, 0, none⟩)), pr := fun w => if w = k then true else B.pr w, hb := fun w => if w = k then nb else B.hb w, hv := fun w => if w = k then 0 else B.hv w }
def Sh.beginN (S : Sh) (K : Wk) (k : Nat) : Sh := ({ S with calls := S.calls ++ [⟨k, (S.ask K k).kind, (S.ask K k).key, (S.ask K k).value, S.steps, -1, 0, 0⟩] } : Sh).setH k ⟨0, false, S.calls.length⟩
theorem alook_set {κ β : Type} [DecidableEq κ] (m : List (κ × β)) (x : κ) (u : β) (y : κ) : alook (aset m x u) y = if y = x then some u else alook m y := by
 induction m with
 | nil => simp [aset, alook]
 | cons p r ih =>
  obtain ⟨a, v⟩ := p
  by_cases hx : x = a
  ·subst hx
   simp only [aset, if_true, alook]
   by_cases hy : y = x <;> simp [hy]
  ·simp only [aset, if_neg hx, alook]
   by_cases hy : y = a
   ·subst hy; simp [Ne.symm hx]
   ·simp [hy, ih]
theorem aset_keys {κ β : Type} [DecidableEq κ] (x : κ) (u : β) : ∀ (m : List (κ × β)) (y : κ), y ∈ (aset m x u).map Prod.fst ↔ y = x ∨ y ∈ m.map Prod.fst
 | [], y => by simp [aset]
 | (a, v) :: r, y => by
  by_cases hx : x = a
  ·subst hx; simp [aset]
  ·have ih := aset_keys x u r y
   simp only [aset, if_neg hx, List.map_cons, List.mem_cons, ih]
   constructor
   ·rintro (h | h | h)
    ·exact .inr (.inl h)
    ·exact .inl h
    ·exact .inr (.inr h)
   ·rintro (h | h | h)
    ·exact .inr (.inl h)
    ·exact .inl h
    ·exact .inr (.inr h)
theorem aset_nd {κ β : Type} [DecidableEq κ] (x : κ) (u : β) : ∀ {m : List (κ × β)}, (m.map Prod.fst).Nodup → ((aset m x u).map Prod.fst).Nodup
 | [], _ => by simp [aset]
 | (a, v) :: r, h => by
  have h := List.nodup_cons.1 (show (a :: r.map Prod.fst).Nodup from h)
  by_cases hx : x = a
  ·subst hx; simp only [aset, if_true, List.map_cons]; exact List.nodup_cons.2 h
  ·simp only [aset, if_neg hx, List.map_cons]
   refine List.nodup_cons.2 ⟨fun hm => ?_, aset_nd x u h.2⟩
   rcases (aset_keys x u r a).1 hm with e | e
   ·exact hx e.symm
   ·exact h.1 e
theorem adel_keys {κ β : Type} [DecidableEq κ] (x : κ) : ∀ (m : List (κ × β)) (y : κ), y ∈ (adel m x).map Prod.fst → y ∈ m.map Prod.fst
 | [], y, h => by simp [adel] at h
 | (a, v) :: r, y, h => by
  by_cases hx : x = a
  ·subst hx; simp [adel] at h; simpa using .inr h
  ·simp only [adel, if_neg hx, List.map_cons, List.mem_cons] at h ⊢
   exact h.imp id (adel_keys x r y)
theorem adel_nd {κ β : Type} [DecidableEq κ] (x : κ) : ∀ {m : List (κ × β)}, (m.map Prod.fst).Nodup → ((adel m x).map Prod.fst).Nodup
 | [], _ => by simp [adel]
 | (a, v) :: r, h => by
  have h := List.nodup_cons.1 (show (a :: r.map Prod.fst).Nodup from h)
  by_cases hx : x = a
  ·subst hx; simp only [adel, if_true]; exact h.2
  ·simp only [adel, if_neg hx, List.map_cons]
   exact List.nodup_cons.2 ⟨fun hm => h.1 (adel_keys x r a hm), adel_nd x h.2⟩
theorem alook_no {κ β : Type} [DecidableEq κ] (y : κ) : ∀ {m : List (κ × β)}, y ∉ m.map Prod.fst → alook m y = none
 | [], _ => rfl
 | (a, v) :: r, h => by
  simp only [List.map_cons, List.mem_cons, not_or] at h
  simp only [alook, if_neg h.1]
  exact alook_no y h.2
theorem alook_del {κ β : Type} [DecidableEq κ] (x y : κ) : ∀ {m : List (κ × β)}, (m.map Prod.fst).Nodup → alook (adel m x) y = if y = x then none else alook m y
 | [], _ => by simp [adel, alook]
 | (a, v) :: r, h => by
  have h := List.nodup_cons.1 (show (a :: r.map Prod.fst).Nodup from h)
  by_cases hx : x = a
  ·subst hx
   simp only [adel, if_true]
   by_cases hy : y = x
   ·rw [if_pos hy, hy]; exact alook_no x h.1
   ·rw [if_neg hy]; simp [alook, hy]
  ·simp only [adel, if_neg hx, alook]
   by_cases hy : y = a
   ·subst hy; simp [Ne.symm hx]
   ·simp only [if_neg hy]; exact alook_del x y h.2
theorem TabIs.begin (h : TabIs W base t K S B) (k : Nat) (hk : k < K.work.length) (nb : Nat) (vp' : Value) (hb : But (fun b => b = t ∨ b = B.bh ∨ B.vp.ownBlock = some b) W W')
  (head : W'.heap[t]? = some (.cells #[.pointer (some ⟨B.m, 0, none⟩), .int .i64 K.shards, B.vw, B.va, .map (some B.bh), .map (some B.bv), .map (some B.bt), vp', .int .i64 S.steps] 58 (0, 0)))
  (hands : MapIs (Value.int .i64) id W' B.bh (aset B.hm (k : Int) (.pointer (some ⟨nb, 0, none⟩))))
  (past : W'.ownsRow base 35 8 vp' (S.calls.length + 1) (S.calls.flatMap Cl.cells ++ Cl.cells ⟨k, (S.ask K k).kind, (S.ask K k).key, (S.ask K k).value, S.steps, -1, 0, 0⟩))
  (hn : W'.heap[nb]? = some (.cells #[.int .i64 (S.calls.length : Nat), .int .i64 (0 : Nat), .bool false, .int .i64 0] 71 (0, 0))) (hnb : W.heap.size ≤ nb)
  (hvp : ∀ g, vp'.ownBlock = some g → B.vp.ownBlock = some g ∨ W.heap.size ≤ g) : TabIs W' base t K (S.beginN K k) (B.begin k nb vp') := by
 have hX : ∀ b, (b = t ∨ b = B.bh ∨ B.vp.ownBlock = some b) → B.wr t b := fun b hx => by
  rcases hx with e | e | e
  ·exact .inl e
  ·exact .inr (.inl e)
  ·exact .inr (.inr (.inr (.inr (.inr (.inl e)))))
 obtain ⟨k1, k2, k3⟩ := h.kept (W' := W') ⟨fun b hl hn => hb.keep b hl (fun hx => hn (hX b hx)), hb.size⟩
 have hnbl : nb < W'.heap.size := (Array.getElem?_eq_some_iff.1 hn).1
 have hml := h.mem
 have fml : ∀ g, B.fm g → g < W.heap.size := by obtain ⟨v, ys, H⟩ := h.mem; exact H.lt
 have hbase : base ≤ t ∧ t < W.heap.size := (h.ap t (.inl rfl)).2
 refine ⟨head, k1, h.lm, k2, k3, ?_, hands, ?_, ?_, ?_, h.valIs, ?_, h.toldIs, ?_, h.wsl, h.nxl, ?_, h.lkl, h.mp, ?_, ?_, h.nxt, aset_nd _ _ h.hnd⟩
 ·refine own_but h.ats hb (fun g hg => ?_)
  rintro (e | e | e)
  ·exact tag_ne (own_tag h.ats hg) h.tagT (by decide) e
  ·exact tag_ne (own_tag h.ats hg) (map_tag h.hands) (by decide) e
  ·exact tag_ne (own_tag h.ats hg) (own_tag h.past e) (by decide) rfl
 ·intro w hw
  have hw : (if w = k then true else B.pr w) = false := hw
  by_cases e : w = k
  ·rw [if_pos e] at hw; cases hw
  ·rw [if_neg e] at hw
   refine ⟨?_, ?_⟩
   ·show alook (aset B.hm (k : Int) _) (w : Int) = none
    rw [alook_set, if_neg (by omega)]
    exact (h.free w hw).1
   ·show ((S.beginN K k).hand w).at_ = 0
    unfold Sh.beginN
    rw [setH_hand _ _ (by show k < S.hands.length; rw [h.hnl]; exact hk), if_neg e]
    exact (h.free w hw).2
 ·intro w hw
  have hw : (if w = k then true else B.pr w) = true := hw
  show alook (aset B.hm (k : Int) _) (w : Int) = some (.pointer (some ⟨(if w = k then nb else B.hb w), 0, none⟩)) ∧ W'.heap[if w = k then nb else B.hb w]? = some (.cells #[.int .i64 (((S.beginN K k).hand w).call : Nat), .int .i64 (((S.beginN K k).hand w).at_ : Nat), .bool ((S.beginN K k).hand w).found, .int .i64 (if w = k then 0 else B.hv w)] 71 (0, 0))
  unfold Sh.beginN
  rw [setH_hand _ _ (by show k < S.hands.length; rw [h.hnl]; exact hk), alook_set]
  by_cases e : w = k
  ·subst e
   simp only [if_true]
   exact ⟨trivial, hn⟩
  ·rw [if_neg e] at hw
   rw [if_neg (by omega : ¬ (w : Int) = k)]
   simp only [if_neg e]
   obtain ⟨a1, a2⟩ := h.hand w hw
   refine ⟨a1, (hb.keep _ (Array.getElem?_eq_some_iff.1 a2).1 ?_).trans a2⟩
   rintro (e2 | e2 | e2)
   ·exact tag_ne (h.tagHand w hw) h.tagT (by decide) e2
   ·exact tag_ne (h.tagHand w hw) (map_tag h.hands) (by decide) e2
   ·exact tag_ne (h.tagHand w hw) (own_tag h.past e2) (by decide) rfl
 ·refine h.vals.but hb ?_
  rintro (e | e | e)
  ·exact tag_ne (map_tag h.vals) h.tagT (by decide) e
  ·exact h.mp.1 e.symm
  ·exact tag_ne (map_tag h.vals) (own_tag h.past e) (by decide) rfl
 ·refine h.told.but hb ?_
  rintro (e | e | e)
  ·exact tag_ne (map_tag h.told) h.tagT (by decide) e
  ·exact h.mp.2.1 e.symm
  ·exact tag_ne (map_tag h.told) (own_tag h.past e) (by decide) rfl
 ·show W'.ownsRow base 35 8 vp' (S.calls ++ [_]).length ((S.calls ++ [_]).flatMap Cl.cells)
  rw [List.length_append, List.flatMap_append]
  simpa using past
 ·show (S.hands.set k _).length = K.work.length
  rw [List.length_set]; exact h.hnl
 ·intro w w' hw hw' he
  have hw : (if w = k then true else B.pr w) = true := hw
  have hw' : (if w' = k then true else B.pr w') = true := hw'
  have he : (if w = k then nb else B.hb w) = (if w' = k then nb else B.hb w') := he
  by_cases e : w = k
  ·by_cases e' : w' = k
   ·rw [e, e']
   ·rw [if_pos e, if_neg e'] at he
    rw [if_neg e'] at hw'
    have := (h.ap _ (.inr (.inr (.inr (.inr (.inr (.inr (.inr (.inr ⟨w', hw', rfl⟩))))))))).2.2
    omega
  ·rw [if_neg e] at hw
   by_cases e' : w' = k
   ·rw [if_neg e, if_pos e'] at he
    have := (h.ap _ (.inr (.inr (.inr (.inr (.inr (.inr (.inr (.inr ⟨w, hw, rfl⟩))))))))).2.2
    omega
   ·rw [if_neg e, if_neg e'] at he
    rw [if_neg e'] at hw'
    exact h.hi w w' hw hw' he
 ·intro b hm
  have new : ∀ b, W.heap.size ≤ b → b < W'.heap.size → ¬ B.fm b ∧ base ≤ b ∧ b < W'.heap.size := fun b h1 h2 => ⟨fun hf => by have := fml b hf; omega, by omega, h2⟩
  have old : B.mine K t b → ¬ B.fm b ∧ base ≤ b ∧ b < W'.heap.size := fun hm => ⟨(h.ap b hm).1, (h.ap b hm).2.1, Nat.lt_of_lt_of_le (h.ap b hm).2.2 hb.size⟩
  rcases hm with e | e | e | e | e | e | e | e | ⟨w, hw, e⟩
  ·exact old (.inl e)
  ·exact old (.inr (.inl e))
  ·exact old (.inr (.inr (.inl e)))
  ·exact old (.inr (.inr (.inr (.inl e))))
  ·exact old (.inr (.inr (.inr (.inr (.inl e)))))
  ·exact old (.inr (.inr (.inr (.inr (.inr (.inl e))))))
  ·rcases hvp b e with e2 | e2
   ·exact old (.inr (.inr (.inr (.inr (.inr (.inr (.inl e2)))))))
   ·exact new b e2 (own_lt past b e)
  ·exact old (.inr (.inr (.inr (.inr (.inr (.inr (.inr (.inl e))))))))
  ·have hw : (if w = k then true else B.pr w) = true := hw
   have e : (if w = k then nb else B.hb w) = b := e
   by_cases ek : w = k
   ·rw [if_pos ek] at e
    subst e
    exact new _ hnb hnbl
   ·rw [if_neg ek] at e hw
    exact old (.inr (.inr (.inr (.inr (.inr (.inr (.inr (.inr ⟨w, hw, e⟩))))))))
end Go.Proofs.YtabkmdhkfbcldaaGreat
namespace Go.Proofs.YtabkmdhkfbcldaaGreat
open Go.RowKit
variable {W W' : World} {base t : Nat} {K : Wk} {S : Sh} {B : TB}
theorem flat_set {α : Type} (f : α → List Value) (k : Nat) (hk : ∀ x, (f x).length = k) : ∀ (l : List α) (i : Nat) (hi : i < l.length) (j : Nat) (v : Value) (y : α), j < k → f y = (f l[i]).set j v → (l.flatMap f).set (i * k + j) v = (l.set i y).flatMap f
 | x :: l, 0, _, j, v, y, hj, hy => by
  rw [List.flatMap_cons, Nat.zero_mul, Nat.zero_add, List.set_append_left _ _ (by rw [hk]; exact hj), List.set_cons_zero, List.flatMap_cons, hy]; rfl
 | x :: l, i + 1, hi, j, v, y, hj, hy => by
  rw [List.flatMap_cons, List.set_append_right _ _ (by rw [hk, Nat.succ_mul]; omega), hk, show (i + 1) * k + j - k = i * k + j by rw [Nat.succ_mul]; omega, List.set_cons_succ, List.flatMap_cons]
  rw [flat_set f k hk l i (by simpa using hi) j v y hj hy]
def Sh.endC (S : Sh) (w : Nat) (n e : Int) : Sh :=
 { S with
  calls := S.calls.set (S.hand w).call { cAt S.calls (S.hand w).call with «to» := S.steps, ans := n, err := e },
  next := S.next.set w (S.next.getD w 0 + 1),
  hands := S.hands.set w hn0 }
def TB.endB (B : TB) (k : Nat) : TB := { B with hm := adel B.hm (k : Int), pr := fun w => if w = k then false else B.pr w }
theorem cl_set3 (l : List Cl) (c : Nat) (hc : c < l.length) (n e s : Int) :
  (((l.flatMap Cl.cells).set (c * 8 + 5) (.int .i64 s)).set (c * 8 + 6) (.int .i64 n)).set (c * 8 + 7) (.int .i64 e) = (l.set c { cAt l c with «to» := s, ans := n, err := e }).flatMap Cl.cells := by
 have ec : cAt l c = l[c] := by simp [cAt, List.getD_eq_getElem?_getD, hc]
 rw [ec]
 rw [flat_set Cl.cells 8 (fun _ => rfl) l c hc 5 _ { l[c] with «to» := s } (by omega) rfl]
 rw [flat_set Cl.cells 8 (fun _ => rfl) _ c (by simpa using hc) 6 _ { l[c] with «to» := s, ans := n } (by omega) (by rw [List.getElem_set_self]; rfl)]
 rw [flat_set Cl.cells 8 (fun _ => rfl) _ c (by simpa using hc) 7 _ { l[c] with «to» := s, ans := n, err := e } (by omega) (by rw [List.getElem_set_self]; rfl)]
 simp
theorem endC_hand (S : Sh) (k : Nat) (hk : k < S.hands.length) (n e : Int) (w : Nat) : (S.endC k n e).hand w = if w = k then hn0 else S.hand w := setH_hand S k hk hn0 w
theorem TabIs.endd (h : TabIs W base t K S B) (k : Nat) (hk : k < K.work.length) (hn : S.next.getD k 0 < (K.own k).length) (n e : Int)
  (hb : But (fun b => b = B.bh ∨ B.vp.ownBlock = some b ∨ B.va.ownBlock = some b) W W')
  (hands : MapIs (Value.int .i64) id W' B.bh (adel B.hm (k : Int)))
  (past : W'.ownsRow base 35 8 B.vp S.calls.length ((S.endC k n e).calls.flatMap Cl.cells))
  (ats : W'.ownsRow base 3 1 B.va S.next.length ((S.endC k n e).next.map natV)) : TabIs W' base t K (S.endC k n e) (B.endB k) := by
 have hX : ∀ b, (b = B.bh ∨ B.vp.ownBlock = some b ∨ B.va.ownBlock = some b) → B.wr t b := fun b hx => by
  rcases hx with e | e | e
  ·exact .inr (.inl e)
  ·exact .inr (.inr (.inr (.inr (.inr (.inl e)))))
  ·exact .inr (.inr (.inr (.inr (.inl e))))
 obtain ⟨k1, k2, k3⟩ := h.kept (W' := W') ⟨fun b hl hn => hb.keep b hl (fun hx => hn (hX b hx)), hb.size⟩
 have hkl : k < S.hands.length := by rw [h.hnl]; exact hk
 have cellsNe : ∀ {b T : Nat}, tagAt W b = some (T + 1) → T ≠ 35 → T ≠ 3 → ¬ (b = B.bh ∨ B.vp.ownBlock = some b ∨ B.va.ownBlock = some b) := fun hb0 n1 n2 => by
  rintro (e | e | e)
  ·exact tag_ne hb0 (map_tag h.hands) (by omega) e
  ·exact tag_ne hb0 (own_tag h.past e) (by omega) rfl
  ·exact tag_ne hb0 (own_tag h.ats e) (by omega) rfl
 have hpr : ∀ w, (B.endB k).pr w = true → B.pr w = true ∧ w ≠ k := fun w hw => by
  have hw : (if w = k then false else B.pr w) = true := hw
  by_cases e : w = k
  ·rw [if_pos e] at hw; cases hw
  ·rw [if_neg e] at hw; exact ⟨hw, e⟩
 refine ⟨?_, k1, h.lm, k2, k3, ?_, hands, ?_, ?_, ?_, h.valIs, ?_, h.toldIs, ?_, h.wsl, ?_, ?_, h.lkl, h.mp, ?_, ?_, ?_, adel_nd _ h.hnd⟩
 ·exact (hb.keep t (Array.getElem?_eq_some_iff.1 h.head).1 (cellsNe h.tagT (by decide) (by decide))).trans h.head
 ·show W'.ownsRow base 3 1 B.va (S.next.set k _).length _
  rw [List.length_set]
  exact ats
 ·intro w hw
  have hw : (if w = k then false else B.pr w) = false := hw
  show alook (adel B.hm (k : Int)) (w : Int) = none ∧ ((S.endC k n e).hand w).at_ = 0
  rw [alook_del _ _ h.hnd, endC_hand S k hkl]
  by_cases e : w = k
  ·subst e; simp [hn0]
  ·rw [if_neg e] at hw
   rw [if_neg (by omega), if_neg e]
   exact h.free w hw
 ·intro w hw
  obtain ⟨hw, e⟩ := hpr w hw
  show alook (adel B.hm (k : Int)) (w : Int) = some (.pointer (some ⟨B.hb w, 0, none⟩)) ∧ _
  rw [alook_del _ _ h.hnd, if_neg (by omega)]
  refine ⟨(h.hand w hw).1, ?_⟩
  rw [endC_hand S k hkl, if_neg e]
  exact (hb.keep _ (Array.getElem?_eq_some_iff.1 (h.hand w hw).2).1 (cellsNe (h.tagHand w hw) (by decide) (by decide))).trans (h.hand w hw).2
 ·refine h.vals.but hb ?_
  rintro (e | e | e)
  ·exact h.mp.1 e.symm
  ·exact tag_ne (map_tag h.vals) (own_tag h.past e) (by decide) rfl
  ·exact tag_ne (map_tag h.vals) (own_tag h.ats e) (by decide) rfl
 ·refine h.told.but hb ?_
  rintro (e | e | e)
  ·exact h.mp.2.1 e.symm
  ·exact tag_ne (map_tag h.told) (own_tag h.past e) (by decide) rfl
  ·exact tag_ne (map_tag h.told) (own_tag h.ats e) (by decide) rfl
 ·show W'.ownsRow base 35 8 B.vp (S.calls.set _ _).length _
  rw [List.length_set]
  exact past
 ·show (S.next.set k _).length = K.work.length
  rw [List.length_set]; exact h.nxl
 ·show (S.hands.set k _).length = K.work.length
  rw [List.length_set]; exact h.hnl
 ·intro w w' hw hw' he
  exact h.hi w w' (hpr w hw).1 (hpr w' hw').1 he
 ·intro b hm
  have old : B.mine K t b → ¬ B.fm b ∧ base ≤ b ∧ b < W'.heap.size := fun hm => ⟨(h.ap b hm).1, (h.ap b hm).2.1, Nat.lt_of_lt_of_le (h.ap b hm).2.2 hb.size⟩
  rcases hm with e | e | e | e | e | e | e | e | ⟨w, hw, e⟩
  ·exact old (.inl e)
  ·exact old (.inr (.inl e))
  ·exact old (.inr (.inr (.inl e)))
  ·exact old (.inr (.inr (.inr (.inl e))))
  ·exact old (.inr (.inr (.inr (.inr (.inl e)))))
  ·exact old (.inr (.inr (.inr (.inr (.inr (.inl e))))))
  ·exact old (.inr (.inr (.inr (.inr (.inr (.inr (.inl e)))))))
  ·exact old (.inr (.inr (.inr (.inr (.inr (.inr (.inr (.inl e))))))))
  ·exact old (.inr (.inr (.inr (.inr (.inr (.inr (.inr (.inr ⟨w, (hpr w hw).1, e⟩))))))))
 ·intro w hw
  show (S.next.set k _).getD w 0 ≤ _
  rw [List.getD_eq_getElem?_getD, List.getElem?_set]
  by_cases e : k = w
  ·subst e
   rw [if_pos rfl, if_pos (by rw [h.nxl]; exact hk)]
   simp only [Option.getD_some]; omega
  ·rw [if_neg e, ← List.getD_eq_getElem?_getD]; exact h.nxt w hw
end Go.Proofs.YtabkmdhkfbcldaaGreat
namespace Go.Proofs.YtabkmdhkfbcldaaGreat
open Go.RowKit
section
variable {κ β : Type} [DecidableEq κ] {P : Program} {k : TypeId} {mk : κ → Value} {mv : β → Value}
theorem step_mapset {w : World} {ops : Array Oper} {o : Oper} {a : Act} {K' : Act → World → Prop} {Q : Exit → Act → World → Prop} {C : Prop} {t el : TypeId}
  (K : KeyOk P k mk) (ht : P.underlying t = some (.map k el)) (hg : o.guard = none) (mo xo vo : Operand) (hop : o.op = Op.mapUpdate t mo xo vo ∨ o.op = Op.insert t mo xo vo)
  (b : Nat) (m : List (κ × β)) (hm : a.eval mo = .map (some b)) (h : MapIs mk mv w b m) (x : κ) (hx : a.eval xo = mk x) (u : β) (hu : a.eval vo = mv u)
  (hK : ∀ w', MapIs mk mv w' b (aset m x u) → w.grownBy w' (some b) → K' (a.put o.dst undef) w') : if Region.wanted o (yielded ops a.tmps) = true then Oper.wp P o a w K' Q else C := by
 have hw : Region.wanted o (yielded ops a.tmps) = true := by simp [Region.wanted, hg]
 rw [if_pos hw]
 obtain ⟨w', hrun, r1, r2⟩ := h.run_update K ht x u
 unfold Oper.wp
 rcases hop with hop | hop
 ·simp [execOp, hop, hm, hx, hu, hrun, Result.andThen]
  exact hK w' r1 r2
 ·simp [execOp, hop, hm, hx, hu, hrun, Result.andThen]
  exact hK w' r1 r2
theorem step_maplook {w : World} {ops : Array Oper} {o : Oper} {a : Act} {K' : Act → World → Prop} {Q : Exit → Act → World → Prop} {C : Prop} {t el : TypeId}
  (K : KeyOk P k mk) (ht : P.underlying t = some (.map k el)) (hg : o.guard = none) (mo xo : Operand) (c : Bool) (hop : o.op = Op.lookup t mo xo c)
  (z : Value) (hz : (zeroValue el).run P w = .ok z w) (b : Nat) (m : List (κ × β)) (hm : a.eval mo = .map (some b)) (h : MapIs mk mv w b m) (x : κ) (hx : a.eval xo = mk x)
  (hK : K' (a.put o.dst (if c then .tuple #[((alook m x).map mv).getD z, .bool (alook m x).isSome] else ((alook m x).map mv).getD z)) w) : if Region.wanted o (yielded ops a.tmps) = true then Oper.wp P o a w K' Q else C := by
 have hw : Region.wanted o (yielded ops a.tmps) = true := by simp [Region.wanted, hg]
 rw [if_pos hw]
 unfold Oper.wp
 simp [execOp, hop, hm, hx, h.run_lookup K ht hz x c, Result.andThen]
 exact hK
end
end Go.Proofs.YtabkmdhkfbcldaaGreat
namespace Go.Proofs.YtabkmdhkfbcldaaGreat
open Go.RowKit
variable {W W' : World} {base t : Nat} {K : Wk} {S : Sh} {B : TB}
theorem ECl : Elem Tryz.prog 32 35 8 72 (.agg #[.int .i64 0, .int .i64 0, .string .empty, .int .i64 0, .int .i64 0, .int .i64 0, .int .i64 0, .int .i64 0]) := Elem.mk' Tryz.underlying32 (by kernel_rfl) rfl (by decide)
theorem cl_ones2 (c : Cl) : ∀ u ∈ Cl.cells c, u.oneCell' = true := fun u hu => by
 simp [Cl.cells] at hu
 rcases hu with rfl | rfl | rfl | rfl | rfl | rfl | rfl | rfl <;> rfl
def AkV (W : World) (a : Ak) (v : Value) (wx : World) : Prop := ∃ b, v = .pointer (some ⟨b, 0, none⟩) ∧ W.heap.size ≤ b ∧ wx.heap[b]? = some (.cells #[.int .i64 a.kind, .string a.key, .int .i64 a.value] 46 (0, 0)) ∧ Below W.heap.size W wx
def BeginTell (W : World) (base t : Nat) (K : Wk) (S : Sh) (B : TB) (k : Nat) (e : Ending) (w' : World) : Prop :=
 e = .returned (.tuple #[]) ∧ ∃ nb vp', TabIs w' base t K (S.beginN K k) (B.begin k nb vp') ∧ But (fun b => b = t ∨ b = B.bh ∨ B.vp.ownBlock = some b) W w' ∧ W.heap.size ≤ nb ∧ Below base W w' ∧ ∀ g, vp'.ownBlock = some g → B.vp.ownBlock = some g ∨ W.heap.size ≤ g
set_option maxRecDepth 20000 in
set_option maxHeartbeats 2000000 in
theorem begins_any (h : TabIs W base t K S B) (HK : WkOk K) (k : Nat) (hk : k < K.work.length) (hn : S.next.getD k 0 < (K.own k).length) (hlen : S.calls.length ≤ 1000000) :
  Calls Tryz.prog 24 #[.pointer (some ⟨t, 0, none⟩), .int .i64 (k : Nat)] W (BeginTell W base t K S B k) := by
 have HT := hid h
 have HA := hid (fun (w1 : World) (hb : Below W.heap.size W w1) => ask_any (h.below hb) k hk hn)
 generalize hak : S.ask K k = ak at HA
 have HAK := hid hak
 clear h hak
 go_enter Tryz.func24, Tryz.ntmps24
 go_upto_region 1 with (go_at_call 25; (with_reducible refine (HA.out _ (Below.refl _ _)).mono ?_); rintro e w3 ⟨rfl, hb3⟩; have HB3 := hid hb3; clear hb3)
 obtain ⟨W5, hW5⟩ : ∃ W5, W5 = w3.alloc (.cells #[.int .i64 ak.kind, .string ak.key, .int .i64 ak.value] 46) := ⟨_, rfl⟩
 rw [← hW5]
 have hz3 := HB3.out.size
 have HB5 : Hid (Below W.heap.size W W5) := by rw [hW5]; exact HB3.out.alloc hz3 _
 have HK5 : Hid (W5.heap[w3.heap.size]? = some (.cells #[.int .i64 ak.kind, .string ak.key, .int .i64 ak.value] 46 (0, 0))) := by rw [hW5]; exact heap_alloc_new w3 _
 have HZ5 : Hid (W5.heap.size = w3.heap.size + 1) := by rw [hW5]; simp [Hid]
 have HT5 := hid (HT.out.below HB5.out)
 clear hW5
 obtain ⟨lp, lc, hvp, -⟩ := own_shape HT.out.past
 have hH5 := HT5.out.head
 rw [hvp] at hH5
 have HH5 := hid hH5
 have HM5 := hid HT5.out.hands
 have hbh : B.bh ≠ t := tag_ne (map_tag HT.out.hands) HT.out.tagT (by decide)
 have HV := hid hvp
 clear hvp hH5
 have HSA : Hid (∀ (w' : World) (o : Obj), w'.heap[t]? = some (.cells #[.pointer (some ⟨B.m, 0, none⟩), .int .i64 K.shards, B.vw, B.va, .map (some B.bh), .map (some B.bv), .map (some B.bt), .slice lp S.calls.length lc, .int .i64 S.steps] 58 (0, 0)) → (w'.alloc o).heap[t]? = some (.cells #[.pointer (some ⟨B.m, 0, none⟩), .int .i64 K.shards, B.vw, B.va, .map (some B.bh), .map (some B.bv), .map (some B.bt), .slice lp S.calls.length lc, .int .i64 S.steps] 58 (0, 0))) := by
  intro w' o hw
  exact (Below.heap_alloc _ _ _ (Array.getElem?_eq_some_iff.1 hw).1).trans hw
 have HSG : Hid (∀ w' w'' : World, w'.grownBy w'' (some B.bh) → w'.heap[t]? = some (.cells #[.pointer (some ⟨B.m, 0, none⟩), .int .i64 K.shards, B.vw, B.va, .map (some B.bh), .map (some B.bv), .map (some B.bt), .slice lp S.calls.length lc, .int .i64 S.steps] 58 (0, 0)) → w''.heap[t]? = some (.cells #[.pointer (some ⟨B.m, 0, none⟩), .int .i64 K.shards, B.vw, B.va, .map (some B.bh), .map (some B.bv), .map (some B.bt), .slice lp S.calls.length lc, .int .i64 S.steps] 58 (0, 0))) := by
  intro w' w'' hg hw
  exact (hg.block _ (Array.getElem?_eq_some_iff.1 hw).1 (fun e => hbh (Option.some.inj e).symm)).trans hw
 have g4 : ∀ w' : World, w'.heap[t]? = some (.cells #[.pointer (some ⟨B.m, 0, none⟩), .int .i64 K.shards, B.vw, B.va, .map (some B.bh), .map (some B.bv), .map (some B.bt), .slice lp S.calls.length lc, .int .i64 S.steps] 58 (0, 0)) → w'.cell? ⟨t, 4, none⟩ = some (.map (some B.bh)) := fun w' hw => cell_of_row _ _ 4 _ _ _ hw
 have g7 : ∀ w' : World, w'.heap[t]? = some (.cells #[.pointer (some ⟨B.m, 0, none⟩), .int .i64 K.shards, B.vw, B.va, .map (some B.bh), .map (some B.bv), .map (some B.bt), .slice lp S.calls.length lc, .int .i64 S.steps] 58 (0, 0)) → w'.cell? ⟨t, 7, none⟩ = some (.slice lp S.calls.length lc) := fun w' hw => cell_of_row _ _ 7 _ _ _ hw
 refine wp_region_held_drew (S := fun w' : World => w'.heap[t]? = some (.cells #[.pointer (some ⟨B.m, 0, none⟩), .int .i64 K.shards, B.vw, B.va, .map (some B.bh), .map (some B.bv), .map (some B.bt), .slice lp S.calls.length lc, .int .i64 S.steps] 58 (0, 0))) (by kernel_rfl) HH5.out (fun hHeld => ?_)
 refine wpAnyH_take (i := 0) (oi := { dst := some 8, op := Op.move (Operand.tmp 0), type := 26, pos := "shard.go:148", after := #[], guard := none }) (v := ?bgv0) rfl (by kernel_rfl) (by kernel_rfl) (by kernel_rfl) (fun _ _ _ h => h) (Or.inl ⟨by rfl, ?bgh0⟩) (by assumption) ?bgr0
 case bgh0 => ((intro w hSw; (try dsimp only at hSw); go_simp); try with_reducible rfl)
 try simp only [Act.put, List.setIfInBounds_toArray, List.set_cons_zero, List.set_cons_succ]
 refine wpAnyH_take (i := 1) (oi := { dst := some 9, op := Op.nilCheck (Operand.tmp 8), type := 0, pos := "shard.go:148", after := #[{ on := 0, ground := Ground.data }], guard := none }) (v := ?bgv1) rfl (by kernel_rfl) (by kernel_rfl) (by kernel_rfl) (fun _ _ _ h => h) (Or.inl ⟨by rfl, ?bgh1⟩) (by assumption) ?bgr1
 case bgh1 => ((intro w hSw; (try dsimp only at hSw); go_simp); try with_reducible rfl)
 try simp only [Act.put, List.setIfInBounds_toArray, List.set_cons_zero, List.set_cons_succ]
 refine wpAnyH_take (i := 2) (oi := { dst := some 10, op := Op.fieldAddr 58 (Operand.tmp 9) 4, type := 0, pos := "shard.go:148", after := #[{ on := 1, ground := Ground.data }], guard := none }) (v := ?bgv2) rfl (by kernel_rfl) (by kernel_rfl) (by kernel_rfl) (fun _ _ _ h => h) (Or.inl ⟨by rfl, ?bgh2⟩) (by assumption) ?bgr2
 case bgh2 => ((intro w hSw; (try dsimp only at hSw); go_simp); try with_reducible rfl)
 try simp only [Act.put, List.setIfInBounds_toArray, List.set_cons_zero, List.set_cons_succ]
 refine wpAnyH_take (i := 3) (oi := { dst := some 11, op := Op.load 53 (Operand.tmp 10), type := 53, pos := "shard.go:148", after := #[{ on := 2, ground := Ground.data }], guard := none }) (v := ?bgv3) rfl (by kernel_rfl) (by kernel_rfl) (by kernel_rfl) (fun _ _ _ h => h) (Or.inl ⟨by rfl, ?bgh3⟩) (by assumption) ?bgr3
 case bgh3 => ((intro w hSw; (try dsimp only at hSw); go_simp); try with_reducible rfl)
 try simp only [Act.put, List.setIfInBounds_toArray, List.set_cons_zero, List.set_cons_succ]
 refine wpAnyH_take (i := 4) (oi := { dst := some 12, op := Op.move (Operand.tmp 1), type := 3, pos := "shard.go:148", after := #[], guard := none }) (v := ?bgv4) rfl (by kernel_rfl) (by kernel_rfl) (by kernel_rfl) (fun _ _ _ h => h) (Or.inl ⟨by rfl, ?bgh4⟩) (by assumption) ?bgr4
 case bgh4 => ((intro w hSw; (try dsimp only at hSw); go_simp); try with_reducible rfl)
 try simp only [Act.put, List.setIfInBounds_toArray, List.set_cons_zero, List.set_cons_succ]
 refine wpAnyH_take (i := 5) (oi := { dst := some 13, op := Op.move (Operand.tmp 0), type := 26, pos := "shard.go:148", after := #[], guard := none }) (v := ?bgv5) rfl (by kernel_rfl) (by kernel_rfl) (by kernel_rfl) (fun _ _ _ h => h) (Or.inl ⟨by rfl, ?bgh5⟩) (by assumption) ?bgr5
 case bgh5 => ((intro w hSw; (try dsimp only at hSw); go_simp); try with_reducible rfl)
 try simp only [Act.put, List.setIfInBounds_toArray, List.set_cons_zero, List.set_cons_succ]
 refine wpAnyH_take (i := 6) (oi := { dst := some 14, op := Op.nilCheck (Operand.tmp 13), type := 0, pos := "shard.go:148", after := #[{ on := 5, ground := Ground.data }], guard := none }) (v := ?bgv6) rfl (by kernel_rfl) (by kernel_rfl) (by kernel_rfl) (fun _ _ _ h => h) (Or.inl ⟨by rfl, ?bgh6⟩) (by assumption) ?bgr6
 case bgh6 => ((intro w hSw; (try dsimp only at hSw); go_simp); try with_reducible rfl)
 try simp only [Act.put, List.setIfInBounds_toArray, List.set_cons_zero, List.set_cons_succ]
 refine wpAnyH_take (i := 7) (oi := { dst := some 15, op := Op.fieldAddr 58 (Operand.tmp 14) 7, type := 0, pos := "shard.go:148", after := #[{ on := 6, ground := Ground.data }], guard := none }) (v := ?bgv7) rfl (by kernel_rfl) (by kernel_rfl) (by kernel_rfl) (fun _ _ _ h => h) (Or.inl ⟨by rfl, ?bgh7⟩) (by assumption) ?bgr7
 case bgh7 => ((intro w hSw; (try dsimp only at hSw); go_simp); try with_reducible rfl)
 try simp only [Act.put, List.setIfInBounds_toArray, List.set_cons_zero, List.set_cons_succ]
 refine wpAnyH_take (i := 8) (oi := { dst := some 16, op := Op.load 32 (Operand.tmp 15), type := 32, pos := "shard.go:148", after := #[{ on := 7, ground := Ground.data }], guard := none }) (v := ?bgv8) rfl (by kernel_rfl) (by kernel_rfl) (by kernel_rfl) (fun _ _ _ h => h) (Or.inl ⟨by rfl, ?bgh8⟩) (by assumption) ?bgr8
 case bgh8 => ((intro w hSw; (try dsimp only at hSw); go_simp); try with_reducible rfl)
 try simp only [Act.put, List.setIfInBounds_toArray, List.set_cons_zero, List.set_cons_succ]
 refine wpAnyH_take (i := 9) (oi := { dst := some 17, op := Op.call { callee := Callee.builtin Builtin.len, args := #[Operand.tmp 16], argTypes := #[32] }, type := 3, pos := "shard.go:148", after := #[{ on := 8, ground := Ground.data }], guard := none }) (v := ?bgv9) rfl (by kernel_rfl) (by kernel_rfl) (by kernel_rfl) (fun _ _ _ h => h) (Or.inl ⟨by rfl, ?bgh9⟩) (by assumption) ?bgr9
 case bgh9 => ((intro w hSw; (try dsimp only at hSw); go_simp); try with_reducible rfl)
 try simp only [Act.put, List.setIfInBounds_toArray, List.set_cons_zero, List.set_cons_succ]
 refine wpAnyH_take (i := 10) (oi := { dst := some 18, op := Op.build 71 #[(0, Operand.tmp 17)], type := 71, pos := "shard.go:148", after := #[{ on := 9, ground := Ground.data }], guard := none }) (v := ?bgv10) rfl (by kernel_rfl) (by kernel_rfl) (by kernel_rfl) (fun _ _ _ h => h) (Or.inl ⟨by rfl, ?bgh10⟩) (by assumption) ?bgr10
 case bgh10 => ((intro w hSw; (try dsimp only at hSw); go_simp); try with_reducible rfl)
 try simp only [Act.put, List.setIfInBounds_toArray, List.set_cons_zero, List.set_cons_succ]
 refine wpAnyH_ready (rs := [11]) (by kernel_rfl) (by simp) ?_
 refine AllReadyH.cons (o := { dst := some 19, op := Op.box 71 (Operand.tmp 18), type := 68, pos := "shard.go:148", after := #[{ on := 10, ground := Ground.data }], guard := none }) rfl (fun K hK => ?_) AllReadyH.nil
 go_simp; refine hK.out _ _ (HSA.out _ _ HH5.out) (fun hHeld => ?_)
 clear hK K
 try simp only [Act.put, List.setIfInBounds_toArray, List.set_cons_zero, List.set_cons_succ]
 refine wpAnyH_ready (rs := [12]) (by kernel_rfl) (by simp) ?_
 refine AllReadyH.cons (o := { dst := none, op := Op.mapUpdate 53 (Operand.tmp 11) (Operand.tmp 12) (Operand.tmp 19), type := 0, pos := "shard.go:148", after := #[{ on := 3, ground := Ground.data }, { on := 4, ground := Ground.data }, { on := 11, ground := Ground.data }, { on := 0, ground := Ground.phase }, { on := 1, ground := Ground.phase }, { on := 2, ground := Ground.phase }, { on := 3, ground := Ground.phase }, { on := 4, ground := Ground.phase }, { on := 5, ground := Ground.phase }, { on := 6, ground := Ground.phase }, { on := 7, ground := Ground.phase }, { on := 8, ground := Ground.phase }, { on := 9, ground := Ground.phase }, { on := 10, ground := Ground.phase }, { on := 11, ground := Ground.phase }], guard := none }) rfl (fun K hK => ?_) AllReadyH.nil
 (refine step_mapset KInt Tryz.underlying53 rfl (.tmp 11) (.tmp 12) (.tmp 19) (.inl rfl) B.bh B.hm rfl (HM5.out.alloc _) (k : Int) rfl (.pointer (some ⟨W5.heap.size, 0, none⟩)) rfl ?_); intro w7 hm7 hg7; have HM7 := hid hm7; have HG7 := hid hg7; clear hm7 hg7; refine hK.out _ _ (HSG.out _ _ HG7.out (HSA.out _ _ HH5.out)) (fun hHeld => ?_)
 clear hK K
 try simp only [Act.put, List.setIfInBounds_toArray, List.set_cons_zero, List.set_cons_succ]
 refine wpAnyH_done (by kernel_rfl) ?_ _
 go_wp2_with fail
 have HH7 : Hid (w7.heap[t]? = some (.cells #[.pointer (some ⟨B.m, 0, none⟩), .int .i64 K.shards, B.vw, B.va, .map (some B.bh), .map (some B.bv), .map (some B.bt), .slice lp S.calls.length lc, .int .i64 S.steps] 58 (0, 0))) := HSG.out _ _ HG7.out (HSA.out _ _ HH5.out)
 have HA7 : Hid (w7.heap[w3.heap.size]? = some (.cells #[.int .i64 ak.kind, .string ak.key, .int .i64 ak.value] 46 (0, 0))) := (HG7.out.block _ (by have := HZ5.out; simp; omega) (fun e => tag_ne (x := 46 + 1) (by unfold tagAt; rw [HK5.out]; rfl) (map_tag HM5.out) (by decide) (Option.some.inj e))).trans ((Below.heap_alloc _ _ _ (Array.getElem?_eq_some_iff.1 HK5.out).1).trans HK5.out)
 have HP7 : Hid (w7.ownsRow base 35 8 (.slice lp S.calls.length lc) S.calls.length (S.calls.flatMap Cl.cells)) := by
  have h0 := HT5.out.past
  rw [HV.out] at h0
  refine World.ownsRow.kept ?_ HG7.out ?_
  ·exact h0.alloc _
  cases e : (Value.slice lp S.calls.length lc).ownBlock with
  | none => exact .inl rfl
  | some g => exact .inr (fun e2 => by have e2 := Option.some.inj e2; exact tag_ne (own_tag h0 e) (map_tag HM5.out) (by decide) e2)
 have hz7 : w3.heap.size + 2 ≤ w7.heap.size := by
  have h1 := HG7.out.size
  have h2 := HZ5.out
  simp [World.drew] at h1
  omega
 have c7 : w7.drew.cell? ⟨t, 7, none⟩ = some (.slice lp S.calls.length lc) := cell_of_row w7 _ 7 _ _ _ HH7.out
 have c7b : w7.cell? ⟨t, 7, none⟩ = some (.slice lp S.calls.length lc) := c7
 have HS7 : Hid ((fun w' : World => w'.heap[w3.heap.size]? = some (.cells #[.int .i64 ak.kind, .string ak.key, .int .i64 ak.value] 46 (0, 0)) ∧ w'.cell? ⟨t, 8, none⟩ = some (.int .i64 (S.steps : Nat))) w7) := ⟨HA7.out, cell_of_row w7 _ 8 _ _ _ HH7.out⟩
 have ha3 : w3.heap.size < w7.heap.size := by omega
 have htl : t < w7.heap.size := (Array.getElem?_eq_some_iff.1 HH7.out).1
 have HSL : Hid (∀ o : Obj, (fun w' : World => w'.heap[w3.heap.size]? = some (.cells #[.int .i64 ak.kind, .string ak.key, .int .i64 ak.value] 46 (0, 0)) ∧ w'.cell? ⟨t, 8, none⟩ = some (.int .i64 (S.steps : Nat))) (w7.alloc o)) := fun o => ⟨(Below.heap_alloc _ _ _ ha3).trans HA7.out, (World.cell?_of_block (a := ⟨t, 8, none⟩) (Below.heap_alloc w7 o t htl)).trans HS7.out.2⟩
 have q0 : ∀ w' : World, (w'.heap[w3.heap.size]? = some (.cells #[.int .i64 ak.kind, .string ak.key, .int .i64 ak.value] 46 (0, 0)) ∧ w'.cell? ⟨t, 8, none⟩ = some (.int .i64 (S.steps : Nat))) → w'.cell? ⟨w3.heap.size, 0, none⟩ = some (.int .i64 ak.kind) := fun w' hw => cell_of_row _ _ 0 _ _ _ hw.1
 have q1 : ∀ w' : World, (w'.heap[w3.heap.size]? = some (.cells #[.int .i64 ak.kind, .string ak.key, .int .i64 ak.value] 46 (0, 0)) ∧ w'.cell? ⟨t, 8, none⟩ = some (.int .i64 (S.steps : Nat))) → w'.cell? ⟨w3.heap.size, 1, none⟩ = some (.string ak.key) := fun w' hw => cell_of_row _ _ 1 _ _ _ hw.1
 have q2 : ∀ w' : World, (w'.heap[w3.heap.size]? = some (.cells #[.int .i64 ak.kind, .string ak.key, .int .i64 ak.value] 46 (0, 0)) ∧ w'.cell? ⟨t, 8, none⟩ = some (.int .i64 (S.steps : Nat))) → w'.cell? ⟨w3.heap.size, 2, none⟩ = some (.int .i64 ak.value) := fun w' hw => cell_of_row _ _ 2 _ _ _ hw.1
 have q8 : ∀ w' : World, (w'.heap[w3.heap.size]? = some (.cells #[.int .i64 ak.kind, .string ak.key, .int .i64 ak.value] 46 (0, 0)) ∧ w'.cell? ⟨t, 8, none⟩ = some (.int .i64 (S.steps : Nat))) → w'.cell? ⟨t, 8, none⟩ = some (.int .i64 (S.steps : Nat)) := fun w' hw => hw.2
 have hbl : base ≤ w7.heap.size := by have := (HT.out.ap t (.inl rfl)).2; omega
 clear g4 g7
 have HNE : Hid (w3.heap.size ≠ t) := by have := (HT.out.ap t (.inl rfl)).2; unfold Hid; omega
 have HK8 : Hid (∀ (o : Obj) (w8 : World), (w7.alloc o).drew.grownBy w8 (Value.slice lp S.calls.length lc).ownBlock → w8.heap[t]? = some (.cells #[.pointer (some ⟨B.m, 0, none⟩), .int .i64 K.shards, B.vw, B.va, .map (some B.bh), .map (some B.bv), .map (some B.bt), .slice lp S.calls.length lc, .int .i64 S.steps] 58 (0, 0)) ∧ w8.heap[w3.heap.size]? = some (.cells #[.int .i64 ak.kind, .string ak.key, .int .i64 ak.value] 46 (0, 0))) := fun o w8 hg =>
  ⟨(hg.block t (show t < (w7.alloc o).heap.size by simp; omega) (fun e => tag_ne (own_tag HP7.out e.symm) (by unfold tagAt; rw [HH7.out]; rfl) (show 35 + 1 ≠ 58 + 1 by decide) rfl)).trans ((Below.heap_alloc w7 o t htl).trans HH7.out),
   (hg.block _ (show w3.heap.size < (w7.alloc o).heap.size by simp; omega) (fun e => tag_ne (own_tag HP7.out e.symm) (by unfold tagAt; rw [HA7.out]; rfl) (show 35 + 1 ≠ 46 + 1 by decide) rfl)).trans ((Below.heap_alloc w7 o _ ha3).trans HA7.out)⟩
 have HFIN : Hid (∀ (o : Obj) (vp' : Value) (w8 : World), w8.ownsRow base 35 8 vp' (S.calls.length + 1) (S.calls.flatMap Cl.cells ++ Cl.cells ⟨(k : Nat), ak.kind, ak.key, ak.value, (S.steps : Nat), -1, 0, 0⟩) → (w7.alloc o).drew.grownBy w8 (Value.slice lp S.calls.length lc).ownBlock → Stayed (w7.alloc o).drew (.slice lp S.calls.length lc) vp' → BeginTell W base t K S B k (.returned (.tuple #[])) (w8.setCell ⟨t, 7, none⟩ vp')) := by
  intro o vp' w8 ho hg hs
  have hH8 := (HK8.out o w8 hg).1
  have hz8 : w7.heap.size + 1 ≤ w8.heap.size := by have h1 := hg.size; have h2 : (w7.alloc o).drew.heap.size = w7.heap.size + 1 := (by show (w7.alloc o).heap.size = _; simp); omega
  have hbt := (HT.out.ap t (.inl rfl)).2
  have kp : ∀ b, b < W.heap.size → b ≠ t → b ≠ B.bh → B.vp.ownBlock ≠ some b → (w8.setCell ⟨t, 7, none⟩ vp').heap[b]? = W.heap[b]? := fun b hl n1 n2 n3 => by
   rw [heap_setCell_other _ _ _ _ n1]
   have e1 : w8.heap[b]? = (w7.alloc o).heap[b]? := hg.block b (show b < (w7.alloc o).heap.size by simp; omega) (fun e => n3 (by rw [HV.out]; exact e.symm))
   have hl5 : b < W5.heap.size := Nat.lt_of_lt_of_le hl HB5.out.size
   have e2 : w7.heap[b]? = _ := HG7.out.block b (by simp [World.drew]; omega) (fun e => n2 (Option.some.inj e))
   rw [e1, Below.heap_alloc w7 o b (by omega), e2]
   exact (Below.heap_alloc W5 _ b hl5).trans (HB5.out.block b hl)
  have hbut : But (fun b => b = t ∨ b = B.bh ∨ B.vp.ownBlock = some b) W (w8.setCell ⟨t, 7, none⟩ vp') := ⟨fun b hl hx => kp b hl (fun e => hx (.inl e)) (fun e => hx (.inr (.inl e))) (fun e => hx (.inr (.inr e))), by have := HB5.out.size; simp; omega⟩
  have htag8 : tagAt w8 t = some (58 + 1) := by unfold tagAt; rw [hH8]; rfl
  have hne8 : ∀ g, vp'.ownBlock = some g → g ≠ t := fun g hg' => tag_ne (own_tag ho hg') htag8 (by decide)
  have hvb : ∀ b, tagAt w7 b = some 0 → some b ≠ (Value.slice lp S.calls.length lc).ownBlock := fun b hb e => tag_ne (own_tag HP7.out e.symm) hb (by decide) rfl
  have hbh0 := HT.out.ap B.bh (.inr (.inl rfl))
  have hM8 : MapIs (Value.int .i64) id w8 B.bh (aset B.hm (k : Int) (.pointer (some ⟨W5.heap.size, 0, none⟩))) := MapIs.kept (w := (w7.alloc o).drew) (HM7.out.alloc o) hg (hvb _ (map_tag HM7.out))
  have hN7 : w7.heap[W5.heap.size]? = some (.cells #[.int .i64 (S.calls.length : Nat), .int .i64 (0 : Nat), .bool false, .int .i64 0] 71 (0, 0)) := (HG7.out.block W5.heap.size (by simp [World.drew]) (fun e => by have e := Option.some.inj e; have := HB5.out.size; omega)).trans (heap_alloc_new W5 _)
  have hN8 : w8.heap[W5.heap.size]? = some (.cells #[.int .i64 (S.calls.length : Nat), .int .i64 (0 : Nat), .bool false, .int .i64 0] 71 (0, 0)) := (hg.block W5.heap.size (show W5.heap.size < (w7.alloc o).heap.size by have := (Array.getElem?_eq_some_iff.1 hN7).1; simp; omega) (fun e => tag_ne (own_tag HP7.out e.symm) (by unfold tagAt; rw [hN7]; rfl) (show 35 + 1 ≠ 71 + 1 by decide) rfl)).trans ((Below.heap_alloc w7 o _ (Array.getElem?_eq_some_iff.1 hN7).1).trans hN7)
  have hB : Below base W w8 := by
   have b1 : Below base W w7 := ((HB5.out.mono (by omega)).alloc (by have := HB5.out.size; omega) _).drew.grown HG7.out (by have := HB5.out.size; simp [World.drew]; omega) (fun x e => by cases e; exact hbh0.2.1)
   exact ((b1.alloc hbl o).drew).grown hg (show base ≤ (w7.alloc o).heap.size by simp; omega) (fun x e => own_ge HP7.out x e)
  have hvg : ∀ g, vp'.ownBlock = some g → B.vp.ownBlock = some g ∨ W.heap.size ≤ g := by
   intro g hg'
   rcases hs g hg' with e | e
   ·exact .inl (by rw [HV.out]; exact e)
   ·refine .inr ?_
    have e : (w7.alloc o).heap.size ≤ g := e
    have := HB5.out.size
    simp at e
    omega
  refine ⟨rfl, W5.heap.size, vp', HT.out.begin k hk W5.heap.size vp' hbut ?_ ?_ ?_ ?_ HB5.out.size hvg, hbut, HB5.out.size, hB.setCell hbt.1 _, hvg⟩
  ·exact heap_setCell_same w8 t 7 _ _ vp' hH8
  ·obtain ⟨es, c, hm, F⟩ := hM8
   exact ⟨es, c, (heap_setCell_other _ _ _ _ hbh).trans hm, F⟩
  ·rw [HAK.out]
   exact own_setO ho ⟨t, 7, none⟩ vp' hne8
  ·refine (heap_setCell_other _ _ _ _ ?_).trans hN8
   have := HB5.out.size
   show W5.heap.size ≠ t
   omega
 refine wp_region_held_drew (S := fun w' : World => w'.heap[w3.heap.size]? = some (.cells #[.int .i64 ak.kind, .string ak.key, .int .i64 ak.value] 46 (0, 0)) ∧ w'.cell? ⟨t, 8, none⟩ = some (.int .i64 (S.steps : Nat))) (by kernel_rfl) HS7.out (fun hHeld => ?_)
 refine wpAnyH_take (i := 0) (oi := { dst := some 20, op := Op.move (Operand.tmp 0), type := 26, pos := "shard.go:149", after := #[], guard := none }) (v := ?bhv0) rfl (by kernel_rfl) (by kernel_rfl) (by kernel_rfl) (fun _ _ _ h => h) (Or.inl ⟨by rfl, ?bhh0⟩) (by assumption) ?bhr0
 case bhh0 => ((intro w hSw; (try dsimp only at hSw); go_simp); try with_reducible rfl)
 try simp only [Act.put, List.setIfInBounds_toArray, List.set_cons_zero, List.set_cons_succ]
 refine wpAnyH_take (i := 1) (oi := { dst := some 21, op := Op.move (Operand.tmp 0), type := 26, pos := "shard.go:149", after := #[], guard := none }) (v := ?bhv1) rfl (by kernel_rfl) (by kernel_rfl) (by kernel_rfl) (fun _ _ _ h => h) (Or.inl ⟨by rfl, ?bhh1⟩) (by assumption) ?bhr1
 case bhh1 => ((intro w hSw; (try dsimp only at hSw); go_simp); try with_reducible rfl)
 try simp only [Act.put, List.setIfInBounds_toArray, List.set_cons_zero, List.set_cons_succ]
 refine wpAnyH_take (i := 2) (oi := { dst := some 22, op := Op.nilCheck (Operand.tmp 21), type := 0, pos := "shard.go:149", after := #[{ on := 1, ground := Ground.data }], guard := none }) (v := ?bhv2) rfl (by kernel_rfl) (by kernel_rfl) (by kernel_rfl) (fun _ _ _ h => h) (Or.inl ⟨by rfl, ?bhh2⟩) (by assumption) ?bhr2
 case bhh2 => ((intro w hSw; (try dsimp only at hSw); go_simp); try with_reducible rfl)
 try simp only [Act.put, List.setIfInBounds_toArray, List.set_cons_zero, List.set_cons_succ]
 refine wpAnyH_take (i := 3) (oi := { dst := some 23, op := Op.fieldAddr 58 (Operand.tmp 22) 7, type := 0, pos := "shard.go:149", after := #[{ on := 2, ground := Ground.data }], guard := none }) (v := ?bhv3) rfl (by kernel_rfl) (by kernel_rfl) (by kernel_rfl) (fun _ _ _ h => h) (Or.inl ⟨by rfl, ?bhh3⟩) (by assumption) ?bhr3
 case bhh3 => ((intro w hSw; (try dsimp only at hSw); go_simp); try with_reducible rfl)
 try simp only [Act.put, List.setIfInBounds_toArray, List.set_cons_zero, List.set_cons_succ]
 refine wpAnyH_take (i := 5) (oi := { dst := some 25, op := Op.move (Operand.tmp 1), type := 3, pos := "shard.go:149", after := #[], guard := none }) (v := ?bhv5) rfl (by kernel_rfl) (by kernel_rfl) (by kernel_rfl) (fun _ _ _ h => h) (Or.inl ⟨by rfl, ?bhh5⟩) (by assumption) ?bhr5
 case bhh5 => ((intro w hSw; (try dsimp only at hSw); go_simp); try with_reducible rfl)
 try simp only [Act.put, List.setIfInBounds_toArray, List.set_cons_zero, List.set_cons_succ]
 refine wpAnyH_take (i := 6) (oi := { dst := some 26, op := Op.fieldAddr 46 (Operand.tmp 4) 0, type := 0, pos := "shard.go:149", after := #[], guard := none }) (v := ?bhv6) rfl (by kernel_rfl) (by kernel_rfl) (by kernel_rfl) (fun _ _ _ h => h) (Or.inl ⟨by rfl, ?bhh6⟩) (by assumption) ?bhr6
 case bhh6 => ((intro w hSw; (try dsimp only at hSw); go_simp); try with_reducible rfl)
 try simp only [Act.put, List.setIfInBounds_toArray, List.set_cons_zero, List.set_cons_succ]
 refine wpAnyH_take (i := 7) (oi := { dst := some 27, op := Op.load 3 (Operand.tmp 26), type := 3, pos := "shard.go:149", after := #[{ on := 6, ground := Ground.data }], guard := none }) (v := ?bhv7) rfl (by kernel_rfl) (by kernel_rfl) (by kernel_rfl) (fun _ _ _ h => h) (Or.inl ⟨by rfl, ?bhh7⟩) (by assumption) ?bhr7
 case bhh7 => ((intro w hSw; (try dsimp only at hSw); go_simp); try with_reducible rfl)
 try simp only [Act.put, List.setIfInBounds_toArray, List.set_cons_zero, List.set_cons_succ]
 refine wpAnyH_take (i := 8) (oi := { dst := some 28, op := Op.fieldAddr 46 (Operand.tmp 4) 1, type := 0, pos := "shard.go:149", after := #[], guard := none }) (v := ?bhv8) rfl (by kernel_rfl) (by kernel_rfl) (by kernel_rfl) (fun _ _ _ h => h) (Or.inl ⟨by rfl, ?bhh8⟩) (by assumption) ?bhr8
 case bhh8 => ((intro w hSw; (try dsimp only at hSw); go_simp); try with_reducible rfl)
 try simp only [Act.put, List.setIfInBounds_toArray, List.set_cons_zero, List.set_cons_succ]
 refine wpAnyH_take (i := 9) (oi := { dst := some 29, op := Op.load 9 (Operand.tmp 28), type := 9, pos := "shard.go:149", after := #[{ on := 8, ground := Ground.data }], guard := none }) (v := ?bhv9) rfl (by kernel_rfl) (by kernel_rfl) (by kernel_rfl) (fun _ _ _ h => h) (Or.inl ⟨by rfl, ?bhh9⟩) (by assumption) ?bhr9
 case bhh9 => ((intro w hSw; (try dsimp only at hSw); go_simp); try with_reducible rfl)
 try simp only [Act.put, List.setIfInBounds_toArray, List.set_cons_zero, List.set_cons_succ]
 refine wpAnyH_take (i := 10) (oi := { dst := some 30, op := Op.fieldAddr 46 (Operand.tmp 4) 2, type := 0, pos := "shard.go:149", after := #[], guard := none }) (v := ?bhv10) rfl (by kernel_rfl) (by kernel_rfl) (by kernel_rfl) (fun _ _ _ h => h) (Or.inl ⟨by rfl, ?bhh10⟩) (by assumption) ?bhr10
 case bhh10 => ((intro w hSw; (try dsimp only at hSw); go_simp); try with_reducible rfl)
 try simp only [Act.put, List.setIfInBounds_toArray, List.set_cons_zero, List.set_cons_succ]
 refine wpAnyH_take (i := 11) (oi := { dst := some 31, op := Op.load 2 (Operand.tmp 30), type := 2, pos := "shard.go:149", after := #[{ on := 10, ground := Ground.data }], guard := none }) (v := ?bhv11) rfl (by kernel_rfl) (by kernel_rfl) (by kernel_rfl) (fun _ _ _ h => h) (Or.inl ⟨by rfl, ?bhh11⟩) (by assumption) ?bhr11
 case bhh11 => ((intro w hSw; (try dsimp only at hSw); go_simp); try with_reducible rfl)
 try simp only [Act.put, List.setIfInBounds_toArray, List.set_cons_zero, List.set_cons_succ]
 refine wpAnyH_take (i := 12) (oi := { dst := some 32, op := Op.move (Operand.tmp 0), type := 26, pos := "shard.go:149", after := #[], guard := none }) (v := ?bhv12) rfl (by kernel_rfl) (by kernel_rfl) (by kernel_rfl) (fun _ _ _ h => h) (Or.inl ⟨by rfl, ?bhh12⟩) (by assumption) ?bhr12
 case bhh12 => ((intro w hSw; (try dsimp only at hSw); go_simp); try with_reducible rfl)
 try simp only [Act.put, List.setIfInBounds_toArray, List.set_cons_zero, List.set_cons_succ]
 refine wpAnyH_take (i := 13) (oi := { dst := some 33, op := Op.nilCheck (Operand.tmp 32), type := 0, pos := "shard.go:149", after := #[{ on := 12, ground := Ground.data }], guard := none }) (v := ?bhv13) rfl (by kernel_rfl) (by kernel_rfl) (by kernel_rfl) (fun _ _ _ h => h) (Or.inl ⟨by rfl, ?bhh13⟩) (by assumption) ?bhr13
 case bhh13 => ((intro w hSw; (try dsimp only at hSw); go_simp); try with_reducible rfl)
 try simp only [Act.put, List.setIfInBounds_toArray, List.set_cons_zero, List.set_cons_succ]
 refine wpAnyH_take (i := 14) (oi := { dst := some 34, op := Op.fieldAddr 58 (Operand.tmp 33) 8, type := 0, pos := "shard.go:149", after := #[{ on := 13, ground := Ground.data }], guard := none }) (v := ?bhv14) rfl (by kernel_rfl) (by kernel_rfl) (by kernel_rfl) (fun _ _ _ h => h) (Or.inl ⟨by rfl, ?bhh14⟩) (by assumption) ?bhr14
 case bhh14 => ((intro w hSw; (try dsimp only at hSw); go_simp); try with_reducible rfl)
 try simp only [Act.put, List.setIfInBounds_toArray, List.set_cons_zero, List.set_cons_succ]
 refine wpAnyH_take (i := 15) (oi := { dst := some 35, op := Op.load 3 (Operand.tmp 34), type := 3, pos := "shard.go:149", after := #[{ on := 14, ground := Ground.data }], guard := none }) (v := ?bhv15) rfl (by kernel_rfl) (by kernel_rfl) (by kernel_rfl) (fun _ _ _ h => h) (Or.inl ⟨by rfl, ?bhh15⟩) (by assumption) ?bhr15
 case bhh15 => ((intro w hSw; (try dsimp only at hSw); go_simp); try with_reducible rfl)
 try simp only [Act.put, List.setIfInBounds_toArray, List.set_cons_zero, List.set_cons_succ]
 refine wpAnyH_take (i := 16) (oi := { dst := some 36, op := Op.build 35 #[(0, Operand.tmp 25), (1, Operand.tmp 27), (2, Operand.tmp 29), (3, Operand.tmp 31), (4, Operand.tmp 35), (5, Operand.const (Value.int IntKind.i64 (-1)))], type := 35, pos := "shard.go:149", after := #[{ on := 5, ground := Ground.data }, { on := 7, ground := Ground.data }, { on := 9, ground := Ground.data }, { on := 11, ground := Ground.data }, { on := 15, ground := Ground.data }], guard := none }) (v := ?bhv16) rfl (by kernel_rfl) (by kernel_rfl) (by kernel_rfl) (fun _ _ _ h => h) (Or.inl ⟨by rfl, ?bhh16⟩) (by assumption) ?bhr16
 case bhh16 => ((intro w hSw; (try dsimp only at hSw); go_simp); try with_reducible rfl)
 try simp only [Act.put, List.setIfInBounds_toArray, List.set_cons_zero, List.set_cons_succ]
 refine wpAnyH_ready (rs := [4, 17]) (by kernel_rfl) (by simp) ?_
 refine AllReadyH.cons (o := { dst := some 24, op := Op.load 32 (Operand.tmp 23), type := 32, pos := "shard.go:149", after := #[{ on := 3, ground := Ground.data }], guard := none }) rfl (fun K hK => ?_) ?_
 ·go_simp; refine hK.out _ _ (by first | exact HS7.out | exact HSL.out _) (fun hHeld => ?_)
  clear hK K
  try simp only [Act.put, List.setIfInBounds_toArray, List.set_cons_zero, List.set_cons_succ]
  refine wpAnyH_ready (rs := [17]) (by kernel_rfl) (by simp) ?_
  refine AllReadyH.cons (o := { dst := some 37, op := Op.buildSlice 32 1 #[(0, Operand.tmp 36)], type := 32, pos := "shard.go:149", after := #[{ on := 16, ground := Ground.data }], guard := none }) rfl (fun K hK => ?_) AllReadyH.nil
  go_simp; refine hK.out _ _ (HSL.out _) (fun hHeld => ?_)
  clear hK K
  try simp only [Act.put, List.setIfInBounds_toArray, List.set_cons_zero, List.set_cons_succ]
  refine wpAnyH_ready (rs := [18]) (by kernel_rfl) (by simp) ?_
  refine AllReadyH.cons (o := { dst := some 38, op := Op.call { callee := Callee.builtin Builtin.append, args := #[Operand.tmp 24, Operand.tmp 37], argTypes := #[32, 32] }, type := 32, pos := "shard.go:149", after := #[{ on := 4, ground := Ground.data }, { on := 17, ground := Ground.data }], guard := none }) rfl (fun K hK => ?_) AllReadyH.nil
  (refine step_app ECl rfl (.tmp 24) (.tmp 37) rfl base (.slice lp S.calls.length lc) S.calls.length (S.calls.flatMap Cl.cells) rfl (HP7.out.alloc _) _ 1 1 (Cl.cells ⟨(k : Nat), ak.kind, ak.key, ak.value, (S.steps : Nat), -1, 0, 0⟩) rfl rfl (row_newAt _ _ _ _ rfl) (cl_ones2 _) (by unfold maxLen; omega) (by omega) (by simp; omega) ?_); intro vp' w8 ho8 hg8 hs8; obtain ⟨p8, c8, rfl, -⟩ := own_shape ho8; have HO8 := hid ho8; have HG8 := hid hg8; have HT8 := hid hs8; clear ho8 hg8 hs8; obtain ⟨hh8, ha8⟩ := HK8.out _ _ HG8.out; have HH8 := hid hh8; have HA8 := hid ha8; have y7 := cell_of_row _ _ 7 _ _ _ hh8; have yf := frozen_of_row _ _ 7 _ _ hh8; have y8 := cell_of_row _ _ 8 _ _ _ hh8; have Y8 := hid y8; clear hh8 ha8 y8; refine hK.out _ _ ⟨HA8.out, Y8.out⟩ (fun hHeld => ?_)
  clear hK K
  try simp only [Act.put, List.setIfInBounds_toArray, List.set_cons_zero, List.set_cons_succ]
  refine wpAnyH_take (i := 19) (oi := { dst := some 39, op := Op.nilCheck (Operand.tmp 20), type := 0, pos := "shard.go:149", after := #[{ on := 0, ground := Ground.data }, { on := 0, ground := Ground.phase }, { on := 1, ground := Ground.phase }, { on := 2, ground := Ground.phase }, { on := 3, ground := Ground.phase }, { on := 4, ground := Ground.phase }, { on := 5, ground := Ground.phase }, { on := 6, ground := Ground.phase }, { on := 7, ground := Ground.phase }, { on := 8, ground := Ground.phase }, { on := 9, ground := Ground.phase }, { on := 10, ground := Ground.phase }, { on := 11, ground := Ground.phase }, { on := 12, ground := Ground.phase }, { on := 13, ground := Ground.phase }, { on := 14, ground := Ground.phase }, { on := 15, ground := Ground.phase }, { on := 16, ground := Ground.phase }, { on := 17, ground := Ground.phase }, { on := 18, ground := Ground.phase }], guard := none }) (v := ?bhav19) rfl (by kernel_rfl) (by kernel_rfl) (by kernel_rfl) (fun _ _ _ h => h) (Or.inl ⟨by rfl, ?bhah19⟩) (by assumption) ?bhar19
  case bhah19 => ((intro w hSw; (try dsimp only at hSw); go_simp); try with_reducible rfl)
  try simp only [Act.put, List.setIfInBounds_toArray, List.set_cons_zero, List.set_cons_succ]
  refine wpAnyH_take (i := 20) (oi := { dst := some 40, op := Op.fieldAddr 58 (Operand.tmp 39) 7, type := 0, pos := "shard.go:149", after := #[{ on := 19, ground := Ground.data }, { on := 0, ground := Ground.phase }, { on := 1, ground := Ground.phase }, { on := 2, ground := Ground.phase }, { on := 3, ground := Ground.phase }, { on := 4, ground := Ground.phase }, { on := 5, ground := Ground.phase }, { on := 6, ground := Ground.phase }, { on := 7, ground := Ground.phase }, { on := 8, ground := Ground.phase }, { on := 9, ground := Ground.phase }, { on := 10, ground := Ground.phase }, { on := 11, ground := Ground.phase }, { on := 12, ground := Ground.phase }, { on := 13, ground := Ground.phase }, { on := 14, ground := Ground.phase }, { on := 15, ground := Ground.phase }, { on := 16, ground := Ground.phase }, { on := 17, ground := Ground.phase }, { on := 18, ground := Ground.phase }], guard := none }) (v := ?bhav20) rfl (by kernel_rfl) (by kernel_rfl) (by kernel_rfl) (fun _ _ _ h => h) (Or.inl ⟨by rfl, ?bhah20⟩) (by assumption) ?bhar20
  case bhah20 => ((intro w hSw; (try dsimp only at hSw); go_simp); try with_reducible rfl)
  try simp only [Act.put, List.setIfInBounds_toArray, List.set_cons_zero, List.set_cons_succ]
  refine wpAnyH_ready (rs := [21]) (by kernel_rfl) (by simp) ?_
  refine AllReadyH.cons (o := { dst := none, op := Op.store 32 (Operand.tmp 40) (Operand.tmp 38), type := 0, pos := "shard.go:149", after := #[{ on := 20, ground := Ground.data }, { on := 18, ground := Ground.data }, { on := 18, ground := Ground.chain }, { on := 0, ground := Ground.phase }, { on := 1, ground := Ground.phase }, { on := 2, ground := Ground.phase }, { on := 3, ground := Ground.phase }, { on := 4, ground := Ground.phase }, { on := 5, ground := Ground.phase }, { on := 6, ground := Ground.phase }, { on := 7, ground := Ground.phase }, { on := 8, ground := Ground.phase }, { on := 9, ground := Ground.phase }, { on := 10, ground := Ground.phase }, { on := 11, ground := Ground.phase }, { on := 12, ground := Ground.phase }, { on := 13, ground := Ground.phase }, { on := 14, ground := Ground.phase }, { on := 15, ground := Ground.phase }, { on := 16, ground := Ground.phase }, { on := 17, ground := Ground.phase }, { on := 18, ground := Ground.phase }], guard := none }) rfl (fun K hK => ?_) AllReadyH.nil
  go_simp; refine hK.out _ _ ⟨(heap_setCell_other _ _ _ _ HNE.out).trans HA8.out, cell_of_row _ _ 8 _ _ _ (heap_setCell_same _ _ 7 _ _ _ HH8.out)⟩ (fun hHeld => ?_)
  clear hK K
  try simp only [Act.put, List.setIfInBounds_toArray, List.set_cons_zero, List.set_cons_succ]
  refine wpAnyH_done (by kernel_rfl) ?_ _
  go_wp2_with fail
  refine bodyPost_end (v := .tuple #[]) (by simp [results, Tryz.results24, go_sem]) rfl ?_
  exact HFIN.out _ _ _ HO8.out HG8.out HT8.out
 refine AllReadyH.cons (o := { dst := some 37, op := Op.buildSlice 32 1 #[(0, Operand.tmp 36)], type := 32, pos := "shard.go:149", after := #[{ on := 16, ground := Ground.data }], guard := none }) rfl (fun K hK => ?_) AllReadyH.nil
 go_simp; refine hK.out _ _ (HSL.out _) (fun hHeld => ?_)
 clear hK K
 try simp only [Act.put, List.setIfInBounds_toArray, List.set_cons_zero, List.set_cons_succ]
 refine wpAnyH_ready (rs := [4]) (by kernel_rfl) (by simp) ?_
 refine AllReadyH.cons (o := { dst := some 24, op := Op.load 32 (Operand.tmp 23), type := 32, pos := "shard.go:149", after := #[{ on := 3, ground := Ground.data }], guard := none }) rfl (fun K hK => ?_) AllReadyH.nil
 go_simp; refine hK.out _ _ (by first | exact HS7.out | exact HSL.out _) (fun hHeld => ?_)
 clear hK K
 try simp only [Act.put, List.setIfInBounds_toArray, List.set_cons_zero, List.set_cons_succ]
 refine wpAnyH_ready (rs := [18]) (by kernel_rfl) (by simp) ?_
 refine AllReadyH.cons (o := { dst := some 38, op := Op.call { callee := Callee.builtin Builtin.append, args := #[Operand.tmp 24, Operand.tmp 37], argTypes := #[32, 32] }, type := 32, pos := "shard.go:149", after := #[{ on := 4, ground := Ground.data }, { on := 17, ground := Ground.data }], guard := none }) rfl (fun K hK => ?_) AllReadyH.nil
 (refine step_app ECl rfl (.tmp 24) (.tmp 37) rfl base (.slice lp S.calls.length lc) S.calls.length (S.calls.flatMap Cl.cells) rfl (HP7.out.alloc _) _ 1 1 (Cl.cells ⟨(k : Nat), ak.kind, ak.key, ak.value, (S.steps : Nat), -1, 0, 0⟩) rfl rfl (row_newAt _ _ _ _ rfl) (cl_ones2 _) (by unfold maxLen; omega) (by omega) (by simp; omega) ?_); intro vp' w8 ho8 hg8 hs8; obtain ⟨p8, c8, rfl, -⟩ := own_shape ho8; have HO8 := hid ho8; have HG8 := hid hg8; have HT8 := hid hs8; clear ho8 hg8 hs8; obtain ⟨hh8, ha8⟩ := HK8.out _ _ HG8.out; have HH8 := hid hh8; have HA8 := hid ha8; have y7 := cell_of_row _ _ 7 _ _ _ hh8; have yf := frozen_of_row _ _ 7 _ _ hh8; have y8 := cell_of_row _ _ 8 _ _ _ hh8; have Y8 := hid y8; clear hh8 ha8 y8; refine hK.out _ _ ⟨HA8.out, Y8.out⟩ (fun hHeld => ?_)
 clear hK K
 try simp only [Act.put, List.setIfInBounds_toArray, List.set_cons_zero, List.set_cons_succ]
 refine wpAnyH_take (i := 19) (oi := { dst := some 39, op := Op.nilCheck (Operand.tmp 20), type := 0, pos := "shard.go:149", after := #[{ on := 0, ground := Ground.data }, { on := 0, ground := Ground.phase }, { on := 1, ground := Ground.phase }, { on := 2, ground := Ground.phase }, { on := 3, ground := Ground.phase }, { on := 4, ground := Ground.phase }, { on := 5, ground := Ground.phase }, { on := 6, ground := Ground.phase }, { on := 7, ground := Ground.phase }, { on := 8, ground := Ground.phase }, { on := 9, ground := Ground.phase }, { on := 10, ground := Ground.phase }, { on := 11, ground := Ground.phase }, { on := 12, ground := Ground.phase }, { on := 13, ground := Ground.phase }, { on := 14, ground := Ground.phase }, { on := 15, ground := Ground.phase }, { on := 16, ground := Ground.phase }, { on := 17, ground := Ground.phase }, { on := 18, ground := Ground.phase }], guard := none }) (v := ?bhbv19) rfl (by kernel_rfl) (by kernel_rfl) (by kernel_rfl) (fun _ _ _ h => h) (Or.inl ⟨by rfl, ?bhbh19⟩) (by assumption) ?bhbr19
 case bhbh19 => ((intro w hSw; (try dsimp only at hSw); go_simp); try with_reducible rfl)
 try simp only [Act.put, List.setIfInBounds_toArray, List.set_cons_zero, List.set_cons_succ]
 refine wpAnyH_take (i := 20) (oi := { dst := some 40, op := Op.fieldAddr 58 (Operand.tmp 39) 7, type := 0, pos := "shard.go:149", after := #[{ on := 19, ground := Ground.data }, { on := 0, ground := Ground.phase }, { on := 1, ground := Ground.phase }, { on := 2, ground := Ground.phase }, { on := 3, ground := Ground.phase }, { on := 4, ground := Ground.phase }, { on := 5, ground := Ground.phase }, { on := 6, ground := Ground.phase }, { on := 7, ground := Ground.phase }, { on := 8, ground := Ground.phase }, { on := 9, ground := Ground.phase }, { on := 10, ground := Ground.phase }, { on := 11, ground := Ground.phase }, { on := 12, ground := Ground.phase }, { on := 13, ground := Ground.phase }, { on := 14, ground := Ground.phase }, { on := 15, ground := Ground.phase }, { on := 16, ground := Ground.phase }, { on := 17, ground := Ground.phase }, { on := 18, ground := Ground.phase }], guard := none }) (v := ?bhbv20) rfl (by kernel_rfl) (by kernel_rfl) (by kernel_rfl) (fun _ _ _ h => h) (Or.inl ⟨by rfl, ?bhbh20⟩) (by assumption) ?bhbr20
 case bhbh20 => ((intro w hSw; (try dsimp only at hSw); go_simp); try with_reducible rfl)
 try simp only [Act.put, List.setIfInBounds_toArray, List.set_cons_zero, List.set_cons_succ]
 refine wpAnyH_ready (rs := [21]) (by kernel_rfl) (by simp) ?_
 refine AllReadyH.cons (o := { dst := none, op := Op.store 32 (Operand.tmp 40) (Operand.tmp 38), type := 0, pos := "shard.go:149", after := #[{ on := 20, ground := Ground.data }, { on := 18, ground := Ground.data }, { on := 18, ground := Ground.chain }, { on := 0, ground := Ground.phase }, { on := 1, ground := Ground.phase }, { on := 2, ground := Ground.phase }, { on := 3, ground := Ground.phase }, { on := 4, ground := Ground.phase }, { on := 5, ground := Ground.phase }, { on := 6, ground := Ground.phase }, { on := 7, ground := Ground.phase }, { on := 8, ground := Ground.phase }, { on := 9, ground := Ground.phase }, { on := 10, ground := Ground.phase }, { on := 11, ground := Ground.phase }, { on := 12, ground := Ground.phase }, { on := 13, ground := Ground.phase }, { on := 14, ground := Ground.phase }, { on := 15, ground := Ground.phase }, { on := 16, ground := Ground.phase }, { on := 17, ground := Ground.phase }, { on := 18, ground := Ground.phase }], guard := none }) rfl (fun K hK => ?_) AllReadyH.nil
 go_simp; refine hK.out _ _ ⟨(heap_setCell_other _ _ _ _ HNE.out).trans HA8.out, cell_of_row _ _ 8 _ _ _ (heap_setCell_same _ _ 7 _ _ _ HH8.out)⟩ (fun hHeld => ?_)
 clear hK K
 try simp only [Act.put, List.setIfInBounds_toArray, List.set_cons_zero, List.set_cons_succ]
 refine wpAnyH_done (by kernel_rfl) ?_ _
 go_wp2_with fail
 refine bodyPost_end (v := .tuple #[]) (by simp [results, Tryz.results24, go_sem]) rfl ?_
 exact HFIN.out _ _ _ HO8.out HG8.out HT8.out
end Go.Proofs.YtabkmdhkfbcldaaGreat
namespace Go.Proofs.YtabkmdhkfbcldaaGreat
open Go.RowKit
section
variable {κ β : Type} [DecidableEq κ] {P : Program} {k : TypeId} {mk : κ → Value} {mv : β → Value}
theorem wpList_mapdel {w : World} {ops : Array Oper} {rest : List Oper} {o : Oper} {a : Act} {Q : Exit → Act → World → Prop} {t el : TypeId}
  (K : KeyOk P k mk) (ht : P.underlying t = some (.map k el)) (hg : o.guard = none) (mo xo : Operand) (hop : o.op = Op.call { callee := Callee.builtin Builtin.delete, args := #[mo, xo], argTypes := #[t, k] })
  (b : Nat) (m : List (κ × β)) (hm : a.eval mo = .map (some b)) (h : MapIs mk mv w b m) (x : κ) (hx : a.eval xo = mk x)
  (hK : ∀ w', MapIs mk mv w' b (adel m x) → w.grownBy w' (some b) → wpList P ops Q rest (a.put o.dst (.tuple #[])) w') : wpList P ops Q (o :: rest) a w := by
 refine wpList_plain hg fun K' hK' => ?_
 obtain ⟨w', hrun, r1, r2⟩ := h.run_delete (ty := o.type) K ht x
 unfold Oper.wp
 simp [execOp, hop, hm, hx, resolve, builtin, invoke, Oper.upon_value, hrun, Result.andThen]
 exact hK' _ _ (hK w' r1 r2)
end
end Go.Proofs.YtabkmdhkfbcldaaGreat
