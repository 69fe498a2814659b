/-
  push, pop and steal: one access each (printed by genxd3.py).
-/
import Derived.Test.YtpgdpddmgljpmaaD2
import Derived.Deep.RegionHeld3
import Derived.Deep.CutRange
import Derived.IntWalk
namespace Go.Proofs.Ytpgdpddmgljpmaa
open Go.RowKit

def PostS (w : World) (base d h P c : Nat) (wv hs : Value) (S' : SS) (sv : Value) (e : Ending) (w' : World) : Prop :=
  e = .returned (.tuple #[]) ∧ ∃ sv', St w' base d h P c wv hs S' sv' ∧ Only [some d, some h, some P, sv.ownBlock] w w' ∧ Stayed w sv sv'
theorem Stayed.refl (w : World) (v : Value) : Stayed w v v := fun _ h => .inl h
theorem Stayed.later {w w' : World} {v v' : Value} (h : Stayed w' v v') (hs : w.heap.size ≤ w'.heap.size) : Stayed w v v' := fun g hg => (h g hg).imp id (fun h => Nat.le_trans hs h)
theorem wrap_i64 (n : Int) : IntKind.i64.wrap n = wrap64 n := IntWalk.i64_left n
theorem Only.wide {B A : List (Option Nat)} {a b : World} (h : Only A a b) (hs : ∀ x, x ∈ A → x ∈ B) : Only B a b := h.less (fun _ _ hm => hs _ hm)
/-- Behind one more step that turns no more than that. -/
theorem Only.more {B A : List (Option Nat)} {a b b' : World} (h : Only B a b) (k : Only A b b') (hs : ∀ x, x ∈ A → x ∈ B) : Only B a b' := (h.trans (k.wide hs)).less (fun _ _ hm => by rcases List.mem_append.1 hm with h | h <;> exact h)
theorem Only.drop {A : List (Option Nat)} {a b : World} (h : Only A a.drew b) : Only A a b := ⟨h.os, h.tape, h.output, h.size, h.block⟩
theorem Only.drop1 {A : List (Option Nat)} {a b : World} {q : Nat} (h : Only A (a.drewN q) b) : Only A a b := ⟨h.os, h.tape, h.output, h.size, h.block⟩
theorem Only.nil {B : List (Option Nat)} (w : World) : Only B w w := (Only.refl w).less (fun _ _ h => by cases h)
variable {w w' : World} {base d h P c : Nat} {wv hs : Value} {S : SS} {sv : Value}

set_option maxHeartbeats 1000000 in
theorem push1f (H : St w base d h P c wv hs S sv) (v : Int) (hat : S.at_ = 1) (hf : wrap64 (S.bottom - S.top) = S.pl.length) (hl : S.said.length ≤ 1000000) (S' : SS) (hS : S' = ({ S with b := S.bottom }.inc).says false 0) :
    Calls Try.prog 39 #[.pointer (some ⟨d, 0, none⟩), .pointer (some ⟨h, 0, none⟩), i64 v] w (PostS w base d h P c wv hs S' sv) := by
  have HS := hid hS
  clear hS
  have ch2 := H.ch2
  rw [hat] at ch2
  have cd1 := H.cd1
  have ch4 := H.ch4
  have fh4 := H.fh 4
  have H1 := H.setB S.bottom
  have O1 : Only [some d, some h, some P, sv.ownBlock] w (w.setCell ⟨h, 4, none⟩ (i64 S.bottom)) := (Only.nil w).set ⟨h, 4, none⟩ _ (.inl (by simp))
  have hfb2 : (IntKind.i64.wrap (S.bottom - S.top) == (S.pl.length : Int)) = true := by rw [wrap_i64]; simp [hf]
  clear hf
  clear hat
  go_enter Try.func39, Try.ntmps39
  go_upto_region 5 with (fail)
  clear ch2 cd1 ch4 fh4
  obtain ⟨w1, hw1⟩ : ∃ w1, w.setCell ⟨h, 4, none⟩ (i64 S.bottom) = w1 := ⟨_, rfl⟩
  rw [hw1] at H1 O1 ⊢
  clear hw1
  go_region_held3 (fun w' => w'.cell? ⟨h, 4, none⟩ = some (i64 S.bottom) ∧ w'.cell? ⟨d, 2, none⟩ = some (.slice (some ⟨P, 0, none⟩) S.pl.length c)) (first | exact ⟨H1.drew.ch4, H1.drew.cd2⟩ | exact ⟨H2.ch4, H2.cd2⟩)
      (first
        | (go_at_call 50; refine (readTop_st H1.drew).mono ?_; rintro e w2 ⟨rfl, H2, o2⟩))
  have o3 := O1.more o2.drop (by simp)
  go_wp2_with (go_at_call 51; refine (says_st H2 false 0 hl).mono ?_; rintro e w9 ⟨rfl, sv', H9, o9, s9⟩)
  go_end0
  exact ⟨rfl, sv', HS.out ▸ H9, o3.more o9 (by simp), s9.later (by have := o3.size; omega)⟩

set_option maxHeartbeats 1000000 in
theorem push1 (H : St w base d h P c wv hs S sv) (v : Int) (hat : S.at_ = 1) (hf : ¬ wrap64 (S.bottom - S.top) = S.pl.length) (hl : S.said.length ≤ 1000000) (S' : SS) (hS : S' = { S with b := S.bottom }.inc) :
    Calls Try.prog 39 #[.pointer (some ⟨d, 0, none⟩), .pointer (some ⟨h, 0, none⟩), i64 v] w (PostS w base d h P c wv hs S' sv) := by
  have HS := hid hS
  clear hS
  have ch2 := H.ch2
  rw [hat] at ch2
  have cd1 := H.cd1
  have ch4 := H.ch4
  have fh4 := H.fh 4
  have H1 := H.setB S.bottom
  have O1 : Only [some d, some h, some P, sv.ownBlock] w (w.setCell ⟨h, 4, none⟩ (i64 S.bottom)) := (Only.nil w).set ⟨h, 4, none⟩ _ (.inl (by simp))
  have hfb2 : (IntKind.i64.wrap (S.bottom - S.top) == (S.pl.length : Int)) = false := by rw [wrap_i64]; simp [hf]
  clear hf
  clear hat
  go_enter Try.func39, Try.ntmps39
  go_upto_region 5 with (fail)
  clear ch2 cd1 ch4 fh4
  obtain ⟨w1, hw1⟩ : ∃ w1, w.setCell ⟨h, 4, none⟩ (i64 S.bottom) = w1 := ⟨_, rfl⟩
  rw [hw1] at H1 O1 ⊢
  clear hw1
  go_region_held3 (fun w' => w'.cell? ⟨h, 4, none⟩ = some (i64 S.bottom) ∧ w'.cell? ⟨d, 2, none⟩ = some (.slice (some ⟨P, 0, none⟩) S.pl.length c)) (first | exact ⟨H1.drew.ch4, H1.drew.cd2⟩ | exact ⟨H2.ch4, H2.cd2⟩)
      (first
        | (go_at_call 50; refine (readTop_st H1.drew).mono ?_; rintro e w2 ⟨rfl, H2, o2⟩))
  have o3 := O1.more o2.drop (by simp)
  go_wp2_with fail
  go_end0
  exact ⟨rfl, sv, HS.out ▸ H2, o3, Stayed.refl _ _⟩

set_option maxHeartbeats 1000000 in
theorem push2 (H : St w base d h P c wv hs S sv) (v : Int) (hat : S.at_ = 2) (h0 : 0 ≤ S.b) (hp : 0 < S.pl.length) (hp2 : S.pl.length ≤ 256) (hl : S.said.length ≤ 1000000) (S' : SS) (hS : S' = { S.inc with pl := putP S.pl S.b v }) :
    Calls Try.prog 39 #[.pointer (some ⟨d, 0, none⟩), .pointer (some ⟨h, 0, none⟩), i64 v] w (PostS w base d h P c wv hs S' sv) := by
  have HS := hid hS
  clear hS
  have ch2 := H.ch2
  rw [hat] at ch2
  clear hat
  go_enter Try.func39, Try.ntmps39
  go_upto_region 8 with (fail)
  clear ch2
  go_region_held3 (fun w' => w'.cell? ⟨h, 4, none⟩ = some (i64 S.b)) (first | exact H.drew.ch4 | exact H2.ch4)
      (first
        | (go_at_call 52; refine (put_st H.drew S.b v h0 hp hp2).mono ?_; rintro e w2 ⟨rfl, H2, o2⟩))
  have o3 := (Only.nil w (B := [some d, some h, some P, sv.ownBlock])).more o2.drop (by simp)
  go_wp2_with fail
  go_end0
  exact ⟨rfl, sv, HS.out ▸ H2, o3, Stayed.refl _ _⟩

set_option maxHeartbeats 1000000 in
theorem push3 (H : St w base d h P c wv hs S sv) (v : Int) (hat : S.at_ = 3) (B1 : Int) (hB : B1 = wrap64 (S.b + 1)) (hl : S.said.length ≤ 1000000) (S' : SS) (hS : S' = ({ S.inc with bottom := B1 }).says true v) :
    Calls Try.prog 39 #[.pointer (some ⟨d, 0, none⟩), .pointer (some ⟨h, 0, none⟩), i64 v] w (PostS w base d h P c wv hs S' sv) := by
  have HS := hid hS
  clear hS
  have ch2 := H.ch2
  rw [hat] at ch2
  have hw : IntKind.i64.wrap (S.b + 1) = B1 := by rw [wrap_i64, hB]
  clear hB
  clear hat
  go_enter Try.func39, Try.ntmps39
  go_upto_region 1 with (fail)
  clear ch2
  go_region_held3 (fun w' => w'.cell? ⟨h, 4, none⟩ = some (i64 S.b)) (first | exact H.drew.ch4 | exact H2.ch4)
      (first
        | (go_at_call 53; refine (setBottom_st H.drew B1).mono ?_; rintro e w2 ⟨rfl, H2, o2⟩))
  have o3 := (Only.nil w (B := [some d, some h, some P, sv.ownBlock])).more o2.drop (by simp)
  go_wp2_with (go_at_call 51; refine (says_st H2 true v hl).mono ?_; rintro e w9 ⟨rfl, sv', H9, o9, s9⟩)
  go_end0
  exact ⟨rfl, sv', HS.out ▸ H9, o3.more o9 (by simp), s9.later (by have := o3.size; omega)⟩

set_option maxHeartbeats 1000000 in
theorem pop1 (H : St w base d h P c wv hs S sv) (hat : S.at_ = 1) (B1 : Int) (hB : B1 = wrap64 (S.bottom - 1)) (hl : S.said.length ≤ 1000000) (S' : SS) (hS : S' = { ({ S with b := S.bottom }.inc) with bottom := B1 }) :
    Calls Try.prog 40 #[.pointer (some ⟨d, 0, none⟩), .pointer (some ⟨h, 0, none⟩)] w (PostS w base d h P c wv hs S' sv) := by
  have HS := hid hS
  clear hS
  have ch2 := H.ch2
  rw [hat] at ch2
  have cd1 := H.cd1
  have ch4 := H.ch4
  have fh4 := H.fh 4
  have H1 := H.setB S.bottom
  have O1 : Only [some d, some h, some P, sv.ownBlock] w (w.setCell ⟨h, 4, none⟩ (i64 S.bottom)) := (Only.nil w).set ⟨h, 4, none⟩ _ (.inl (by simp))
  have hw : IntKind.i64.wrap (S.bottom - 1) = B1 := by rw [wrap_i64, hB]
  clear hB
  clear hat
  go_enter Try.func40, Try.ntmps40
  go_upto_region 5 with (fail)
  clear ch2 cd1 ch4 fh4
  obtain ⟨w1, hw1⟩ : ∃ w1, w.setCell ⟨h, 4, none⟩ (i64 S.bottom) = w1 := ⟨_, rfl⟩
  rw [hw1] at H1 O1 ⊢
  clear hw1
  go_region_held3 (fun w' => w'.cell? ⟨h, 4, none⟩ = some (i64 S.bottom)) (first | exact H1.drew.ch4 | exact H2.ch4)
      (first
        | (go_at_call 53; refine (setBottom_st H1.drew B1).mono ?_; rintro e w2 ⟨rfl, H2, o2⟩))
  have o3 := O1.more o2.drop (by simp)
  go_wp2_with fail
  go_end0
  exact ⟨rfl, sv, HS.out ▸ H2, o3, Stayed.refl _ _⟩

set_option maxHeartbeats 1000000 in
theorem pop2 (H : St w base d h P c wv hs S sv) (hat : S.at_ = 2) (hl : S.said.length ≤ 1000000) (S' : SS) (hS : S' = { S.inc with t := S.top }) :
    Calls Try.prog 40 #[.pointer (some ⟨d, 0, none⟩), .pointer (some ⟨h, 0, none⟩)] w (PostS w base d h P c wv hs S' sv) := by
  have HS := hid hS
  clear hS
  have ch2 := H.ch2
  rw [hat] at ch2
  clear hat
  go_enter Try.func40, Try.ntmps40
  go_wp2_with (go_at_call 50; refine (readTop_st H).mono ?_; rintro e w2 ⟨rfl, H2, o2⟩; have c3 := H2.ch3; have f3 := H2.fh 3)
  have o3 := (Only.nil w (B := [some d, some h, some P, sv.ownBlock])).more o2 (by simp)
  go_end0
  exact ⟨rfl, sv, HS.out ▸ H2.setT S.top, o3.set ⟨h, 3, none⟩ _ (.inl (by simp)), Stayed.refl _ _⟩

set_option maxHeartbeats 1000000 in
theorem pop3e (H : St w base d h P c wv hs S sv) (hat : S.at_ = 3) (B1 : Int) (hB : B1 = wrap64 (S.b - 1)) (hc : B1 < S.t) (hl : S.said.length ≤ 1000000) (S' : SS) (hS : S' = ({ S.inc with bottom := S.b }).says false 0) :
    Calls Try.prog 40 #[.pointer (some ⟨d, 0, none⟩), .pointer (some ⟨h, 0, none⟩)] w (PostS w base d h P c wv hs S' sv) := by
  have HS := hid hS
  clear hS
  have ch2 := H.ch2
  rw [hat] at ch2
  have hw : IntKind.i64.wrap (S.b - 1) = B1 := by rw [wrap_i64, hB]
  have hc2 : decide (B1 < S.t) = true := by simpa using hc
  clear hB
  clear hat
  go_enter Try.func40, Try.ntmps40
  have c3 := H.ch3
  have c4 := H.ch4
  go_upto_region 10 with (fail)
  go_quiet (fail)
  go_upto_region 11 with (fail)
  have H0 := H.drewN nq
  go_region_held3 (fun w' => w'.cell? ⟨h, 4, none⟩ = some (i64 S.b)) (first | exact H0.drew.ch4 | exact H2.ch4)
      (first
        | (go_at_call 53; refine (setBottom_st H0.drew S.b).mono ?_; rintro e w2 ⟨rfl, H2, o2⟩))
  have o3 := (Only.nil w (B := [some d, some h, some P, sv.ownBlock])).more o2.drop.drop1 (by simp)
  go_wp2_with (go_at_call 51; refine (says_st H2 false 0 hl).mono ?_; rintro e w9 ⟨rfl, sv', H9, o9, s9⟩)
  go_end0
  exact ⟨rfl, sv', HS.out ▸ H9, o3.more o9 (by simp), s9.later (by have := o3.size; omega)⟩

set_option maxHeartbeats 1000000 in
theorem pop3y (H : St w base d h P c wv hs S sv) (hat : S.at_ = 3) (B1 : Int) (hB : B1 = wrap64 (S.b - 1)) (hc : S.t < B1) (h0 : 0 ≤ B1) (hp : 0 < S.pl.length) (hp2 : S.pl.length ≤ 256) (hl : S.said.length ≤ 1000000) (S' : SS) (hS : S' = S.inc.says true (getP S.pl B1)) :
    Calls Try.prog 40 #[.pointer (some ⟨d, 0, none⟩), .pointer (some ⟨h, 0, none⟩)] w (PostS w base d h P c wv hs S' sv) := by
  have HS := hid hS
  clear hS
  have ch2 := H.ch2
  rw [hat] at ch2
  have hw : IntKind.i64.wrap (S.b - 1) = B1 := by rw [wrap_i64, hB]
  have hc1 : decide (B1 < S.t) = false := by simp; omega
  have hc2 : decide (S.t < B1) = true := by simpa using hc
  have hc3 : ¬ B1 < S.t := by omega
  clear hB
  clear hat
  go_enter Try.func40, Try.ntmps40
  have c3 := H.ch3
  have c4 := H.ch4
  go_upto_region 10 with (fail)
  go_quiet (fail)
  obtain ⟨wz, hwz⟩ : ∃ wz, w.drewN nq = wz := ⟨_, rfl⟩
  have Hz := H.drewN nq
  have Oz : Only [some d, some h, some P, sv.ownBlock] w (w.drewN nq) := (Only.nil w).drewN nq
  rw [hwz] at Hz Oz ⊢
  clear hwz
  clear c3 c4
  have c3 := Hz.ch3
  have c4 := Hz.ch4
  go_upto_region 13 with (fail)
  go_quiet (fail)
  have H0 := Hz.drewN nq
  have O0 := Oz.drewN nq
  go_upto_region 14 with (fail)
  go_region_held3 (fun w' => w'.cell? ⟨h, 4, none⟩ = some (i64 S.b)) (first | exact H0.drew.ch4 | exact H2.ch4 | exact H9.ch4)
      (first
        | (go_at_call 54; refine (get_st H0.drew B1 h0 hp hp2).mono ?_; rintro e w2 ⟨rfl, H2, o2⟩)
        | (go_at_call 51; refine (says_st H2 true (getP S.pl B1) hl).mono ?_; rintro e w9 ⟨rfl, sv', H9, o9, s9⟩))
  have o3 := O0.more o2.drop (by simp)
  go_wp2_with fail
  go_end0
  exact ⟨rfl, sv', HS.out ▸ H9, o3.more o9 (by simp), s9.later (by have := o3.size; omega)⟩

set_option maxHeartbeats 1000000 in
theorem pop3c (H : St w base d h P c wv hs S sv) (hat : S.at_ = 3) (B1 : Int) (hB : B1 = wrap64 (S.b - 1)) (hc : S.t = B1) (T : Int) (hT : T = if S.top = S.t then wrap64 (S.top + 1) else S.top) (bb : Bool) (hbb : bb = decide (S.top = S.t)) (hl : S.said.length ≤ 1000000) (S' : SS) (hS : S' = { { S.inc with top := T } with won := bb }) :
    Calls Try.prog 40 #[.pointer (some ⟨d, 0, none⟩), .pointer (some ⟨h, 0, none⟩)] w (PostS w base d h P c wv hs S' sv) := by
  have HS := hid hS
  clear hS
  have ch2 := H.ch2
  rw [hat] at ch2
  have hw : IntKind.i64.wrap (S.b - 1) = B1 := by rw [wrap_i64, hB]
  have hc1 : decide (B1 < S.t) = false := by simp; omega
  have hc2 : decide (S.t < B1) = false := by simp; omega
  have hc3 : ¬ B1 < S.t := by omega
  have hc4 : ¬ S.t < B1 := by omega
  have HT := hid hT
  have HBB := hid hbb
  clear hB hc hT hbb
  clear hat
  go_enter Try.func40, Try.ntmps40
  have c3 := H.ch3
  have c4 := H.ch4
  go_upto_region 10 with (fail)
  go_quiet (fail)
  obtain ⟨wz, hwz⟩ : ∃ wz, w.drewN nq = wz := ⟨_, rfl⟩
  have Hz := H.drewN nq
  have Oz : Only [some d, some h, some P, sv.ownBlock] w (w.drewN nq) := (Only.nil w).drewN nq
  rw [hwz] at Hz Oz ⊢
  clear hwz
  clear c3 c4
  have c3 := Hz.ch3
  have c4 := Hz.ch4
  go_upto_region 13 with (fail)
  go_quiet (fail)
  have H0 := Hz.drewN nq
  have O0 := Oz.drewN nq
  go_upto_region 9 with (fail)
  have fw := fun (w' : World) (Hw : St w' base d h P c wv hs { S.inc with top := T } sv) => Hw.fh 6
  go_region_held3 (fun w' => w'.cell? ⟨h, 3, none⟩ = some (i64 S.t)) (first | exact H0.drew.ch3 | exact H2.ch3 | exact (H2.setWon bb).ch3)
      (first
        | (go_at_call 55; refine (swapTop_st H0.drew S.t T HT.out bb HBB.out).mono ?_; rintro e w2 ⟨rfl, H2, o2⟩; have c6 := H2.ch6; have f6 := H2.fh 6))
  have o3 := O0.more o2.drop (by simp)
  go_wp2_with fail
  go_end0
  exact ⟨rfl, sv, HS.out ▸ H2.setWon bb, o3.set ⟨h, 6, none⟩ _ (.inl (by simp)), Stayed.refl _ _⟩

set_option maxHeartbeats 1000000 in
theorem pop4 (H : St w base d h P c wv hs S sv) (hat : S.at_ = 4) (B1 : Int) (hB : B1 = wrap64 (S.b - 1)) (h0 : 0 ≤ B1) (hp : 0 < S.pl.length) (hp2 : S.pl.length ≤ 256) (hl : S.said.length ≤ 1000000) (S' : SS) (hS : S' = ({ S.inc with bottom := S.b }).says S.won (getP S.pl B1)) :
    Calls Try.prog 40 #[.pointer (some ⟨d, 0, none⟩), .pointer (some ⟨h, 0, none⟩)] w (PostS w base d h P c wv hs S' sv) := by
  have HS := hid hS
  clear hS
  have ch2 := H.ch2
  rw [hat] at ch2
  have hw : IntKind.i64.wrap (S.b - 1) = B1 := by rw [wrap_i64, hB]
  clear hB
  clear hat
  go_enter Try.func40, Try.ntmps40
  go_upto_region 1 with (fail)
  clear ch2
  go_region_held3 (fun w' => w'.cell? ⟨h, 4, none⟩ = some (i64 S.b)) (first | exact H.drew.ch4 | exact H2.ch4)
      (first
        | (go_at_call 53; refine (setBottom_st H.drew S.b).mono ?_; rintro e w2 ⟨rfl, H2, o2⟩))
  have o3 := (Only.nil w (B := [some d, some h, some P, sv.ownBlock])).more o2.drop (by simp)
  go_upto_region 2 with (fail)
  go_region_held3 (fun w' => w'.cell? ⟨h, 4, none⟩ = some (i64 S.b) ∧ w'.cell? ⟨h, 6, none⟩ = some (.bool S.won) ∧ w'.cell? ⟨P, slot S.pl B1, none⟩ = some (i64 (getP S.pl B1))) (first | exact ⟨H2.drew.ch4, H2.drew.ch6, H2.drew.cP B1 hp⟩ | exact ⟨(H2.drewN (1 + q)).ch4, (H2.drewN (1 + q)).ch6, (H2.drewN (1 + q)).cP B1 hp⟩ | exact ⟨H9.ch4, H9.ch6, H9.cP B1 hp⟩)
      (first
        | (go_at_call 42; refine (place_st H2.drew B1 h0 hp hp2).mono ?_; rintro e wq ⟨rfl, q, rfl⟩)
        | (go_at_call 51; refine (says_st (H2.drewN (1 + q)) S.won (getP S.pl B1) hl).mono ?_; rintro e w9 ⟨rfl, sv', H9, o9, s9⟩))
  go_wp2_with fail
  go_end0
  exact ⟨rfl, sv', HS.out ▸ H9, o3.more o9.drop1 (by simp), s9.later (by have := o3.size; exact this)⟩

set_option maxHeartbeats 1000000 in
theorem steal1 (H : St w base d h P c wv hs S sv) (hat : S.at_ = 1) (hl : S.said.length ≤ 1000000) (S' : SS) (hS : S' = { S.inc with t := S.top }) :
    Calls Try.prog 41 #[.pointer (some ⟨d, 0, none⟩), .pointer (some ⟨h, 0, none⟩)] w (PostS w base d h P c wv hs S' sv) := by
  have HS := hid hS
  clear hS
  have ch2 := H.ch2
  rw [hat] at ch2
  clear hat
  go_enter Try.func41, Try.ntmps41
  go_wp2_with (go_at_call 50; refine (readTop_st H).mono ?_; rintro e w2 ⟨rfl, H2, o2⟩; have c3 := H2.ch3; have f3 := H2.fh 3)
  have o3 := (Only.nil w (B := [some d, some h, some P, sv.ownBlock])).more o2 (by simp)
  go_end0
  exact ⟨rfl, sv, HS.out ▸ H2.setT S.top, o3.set ⟨h, 3, none⟩ _ (.inl (by simp)), Stayed.refl _ _⟩

set_option maxHeartbeats 1000000 in
theorem steal2f (H : St w base d h P c wv hs S sv) (hat : S.at_ = 2) (hf : S.bottom ≤ S.t) (hl : S.said.length ≤ 1000000) (S' : SS) (hS : S' = S.inc.says false 0) :
    Calls Try.prog 41 #[.pointer (some ⟨d, 0, none⟩), .pointer (some ⟨h, 0, none⟩)] w (PostS w base d h P c wv hs S' sv) := by
  have HS := hid hS
  clear hS
  have ch2 := H.ch2
  rw [hat] at ch2
  have hfb : decide (S.bottom ≤ S.t) = true := by simp [hf]
  clear hat
  go_enter Try.func41, Try.ntmps41
  go_upto_region 5 with (fail)
  clear ch2
  go_region_held3 (fun w' => w'.cell? ⟨h, 3, none⟩ = some (i64 S.t)) (first | exact H.drew.ch3 | exact H2.ch3)
      (first
        | (go_at_call 56; refine (readBottom_st H.drew).mono ?_; rintro e w2 ⟨rfl, H2, o2⟩))
  have o3 := (Only.nil w (B := [some d, some h, some P, sv.ownBlock])).more o2.drop (by simp)
  go_wp2_with (go_at_call 51; refine (says_st H2 false 0 hl).mono ?_; rintro e w9 ⟨rfl, sv', H9, o9, s9⟩)
  go_end0
  exact ⟨rfl, sv', HS.out ▸ H9, o3.more o9 (by simp), s9.later (by have := o3.size; omega)⟩

set_option maxHeartbeats 1000000 in
theorem steal2 (H : St w base d h P c wv hs S sv) (hat : S.at_ = 2) (hf : ¬ S.bottom ≤ S.t) (hl : S.said.length ≤ 1000000) (S' : SS) (hS : S' = S.inc) :
    Calls Try.prog 41 #[.pointer (some ⟨d, 0, none⟩), .pointer (some ⟨h, 0, none⟩)] w (PostS w base d h P c wv hs S' sv) := by
  have HS := hid hS
  clear hS
  have ch2 := H.ch2
  rw [hat] at ch2
  have hfb : decide (S.bottom ≤ S.t) = false := by simp [hf]
  clear hat
  go_enter Try.func41, Try.ntmps41
  go_upto_region 5 with (fail)
  clear ch2
  go_region_held3 (fun w' => w'.cell? ⟨h, 3, none⟩ = some (i64 S.t)) (first | exact H.drew.ch3 | exact H2.ch3)
      (first
        | (go_at_call 56; refine (readBottom_st H.drew).mono ?_; rintro e w2 ⟨rfl, H2, o2⟩))
  have o3 := (Only.nil w (B := [some d, some h, some P, sv.ownBlock])).more o2.drop (by simp)
  go_wp2_with fail
  go_end0
  exact ⟨rfl, sv, HS.out ▸ H2, o3, Stayed.refl _ _⟩

set_option maxHeartbeats 1000000 in
theorem steal3 (H : St w base d h P c wv hs S sv) (hat : S.at_ = 3) (h0 : 0 ≤ S.t) (hp : 0 < S.pl.length) (hp2 : S.pl.length ≤ 256) (hl : S.said.length ≤ 1000000) (S' : SS) (hS : S' = { S.inc with v := getP S.pl S.t }) :
    Calls Try.prog 41 #[.pointer (some ⟨d, 0, none⟩), .pointer (some ⟨h, 0, none⟩)] w (PostS w base d h P c wv hs S' sv) := by
  have HS := hid hS
  clear hS
  have ch2 := H.ch2
  rw [hat] at ch2
  clear hat
  go_enter Try.func41, Try.ntmps41
  go_upto_region 8 with (fail)
  clear ch2
  go_region_held3 (fun w' => w'.cell? ⟨h, 3, none⟩ = some (i64 S.t)) (first | exact H.drew.ch3 | exact H2.ch3 | exact (H2.setV (getP S.pl S.t)).ch3)
      (first
        | (go_at_call 54; refine (get_st H.drew S.t h0 hp hp2).mono ?_; rintro e w2 ⟨rfl, H2, o2⟩; have c5 := H2.ch5; have f5 := H2.fh 5))
  have o3 := (Only.nil w (B := [some d, some h, some P, sv.ownBlock])).more o2.drop (by simp)
  go_wp2_with fail
  go_end0
  exact ⟨rfl, sv, HS.out ▸ H2.setV (getP S.pl S.t), o3.set ⟨h, 5, none⟩ _ (.inl (by simp)), Stayed.refl _ _⟩

set_option maxHeartbeats 1000000 in
theorem steal4 (H : St w base d h P c wv hs S sv) (hat : S.at_ = 4) (T : Int) (hT : T = if S.top = S.t then wrap64 (S.top + 1) else S.top) (bb : Bool) (hbb : bb = decide (S.top = S.t)) (hl : S.said.length ≤ 1000000) (S' : SS) (hS : S' = ({ S.inc with top := T }).says bb S.v) :
    Calls Try.prog 41 #[.pointer (some ⟨d, 0, none⟩), .pointer (some ⟨h, 0, none⟩)] w (PostS w base d h P c wv hs S' sv) := by
  have HS := hid hS
  clear hS
  have ch2 := H.ch2
  rw [hat] at ch2
  have HT := hid hT
  have HBB := hid hbb
  clear hT hbb
  clear hat
  go_enter Try.func41, Try.ntmps41
  go_upto_region 1 with (fail)
  clear ch2
  go_region_held3 (fun w' => w'.cell? ⟨h, 3, none⟩ = some (i64 S.t) ∧ w'.cell? ⟨h, 5, none⟩ = some (i64 S.v)) (first | exact ⟨H.drew.ch3, H.drew.ch5⟩ | exact ⟨H2.ch3, H2.ch5⟩ | exact ⟨H9.ch3, H9.ch5⟩)
      (first
        | (go_at_call 55; refine (swapTop_st H.drew S.t T HT.out bb HBB.out).mono ?_; rintro e w2 ⟨rfl, H2, o2⟩)
        | (go_at_call 51; refine (says_st H2 bb S.v hl).mono ?_; rintro e w9 ⟨rfl, sv', H9, o9, s9⟩))
  have o3 := (Only.nil w (B := [some d, some h, some P, sv.ownBlock])).more o2.drop (by simp)
  go_wp2_with fail
  go_end0
  exact ⟨rfl, sv', HS.out ▸ H9, o3.more o9 (by simp), s9.later (by have := o3.size; omega)⟩
end Go.Proofs.Ytpgdpddmgljpmaa
