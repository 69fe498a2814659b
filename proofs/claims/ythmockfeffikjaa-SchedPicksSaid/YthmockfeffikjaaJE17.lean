/-
  next of a machine of lists; Done and Waits of a machine of lists.
-/
import Derived.Test.YthmockfeffikjaaJE16
import Derived.BigQuiet
import Derived.Deep.RegionHeld3
import Derived.Deep.DeepCutAuto
import Derived.WalkMore
/-! next of a machine of lists. -/
namespace Go.Proofs.Ythmockfeffikjaa
open Go.RowKit
variable {W W' : World} {base L dm : Nat} {S : SL} {fm fa fw fc : Nat → Prop}

theorem quiet_sym {P : Program} {f : FuncId} {args : Array Value} {w : World} {n : Nat} {v : Value} (h : Calls P f args (w.drewN n) fun e w' => e = .returned v ∧ w.drewN n = w') : Calls P f args (w.drewN n) fun e w'' => e = .returned v ∧ ∃ m, w'' = w.drewN m :=
  h.mono fun _ _ ⟨h1, h2⟩ => ⟨h1, n, h2.symm⟩
def ac0 : Ac := ⟨0, 0, 0, 0⟩
def NextTell (W : World) (r : Option Ac) (e : Ending) (w' : World) : Prop := e = .returned (.tuple #[(r.getD ac0).val, .bool r.isSome]) ∧ Below W.heap.size W w'

/-- What a worker's rows hold. -/
structure WkAt (W : World) (L : Nat) (S : SL) (k : Nat) (wl : List Ac) (sl : List (Int × Int)) (b o wc g ac : Nat) (p1 : Option Addr) (c1 : Nat) (q1 : Option Addr) (qc : Nat) : Prop where
  lt : L < W.heap.size ∧ b < W.heap.size ∧ g < W.heap.size
  h1 : W.cell? ⟨L, 1, none⟩ = some (.slice (some ⟨b, o, none⟩) S.work.length wc)
  h2 : W.cell? ⟨L, 2, none⟩ = some (.slice (some ⟨g, 0, none⟩) S.said.length ac)
  hw : W.cell? ⟨b, o + k, none⟩ = some (.slice p1 wl.length c1)
  hs : W.cell? ⟨g, k, none⟩ = some (.slice q1 sl.length qc)
  row : Row W p1 (acRow wl)
  bd : wl.length ≤ 4398046511104 ∧ sl.length ≤ wl.length ∧ S.work.length ≤ 64 ∧ S.said.length = S.work.length
theorem LM.at (H : LM W base L S fc fw) (k : Nat) (hk : k < S.work.length) : ∃ b o wc g ac p1 c1 q1 qc, WkAt W L S k (S.work.getD k []) (S.said.getD k []) b o wc g ac p1 c1 q1 qc := by
  obtain ⟨fm, fa, dm, wp, wc, ws, ap, ac, cs, h, _⟩ := H
  obtain ⟨c0, c1, c2, hl⟩ := h.cells
  have hk2 : k < S.said.length := by rw [h.ln]; exact hk
  have hkw : k < ws.length := by rw [h.wk.len]; exact hk
  have hkc : k < cs.length := by rw [h.an.len]; exact hk2
  obtain ⟨g, ac', e, _, hg, _⟩ := own_block h.an.own (by omega)
  cases e
  have hwl := wkCells_len ws S.work h.wk.len
  obtain ⟨b, o, rfl, hb, hc⟩ := h.wk.row.at (by omega)
  obtain ⟨q1, qc, hq, _⟩ := own_shape (h.an.each k hkc hk2)
  have e1 : S.work.getD k [] = S.work[k] := by simp [List.getD_eq_getElem?_getD, hk]
  have e2 : S.said.getD k [] = S.said[k] := by simp [List.getD_eq_getElem?_getD, hk2]
  rw [e1, e2]
  refine ⟨b, o, wc, g, ac, ws[k].1, ws[k].2, q1, qc, ⟨hl, hb, hg⟩, c1, c2, ?_, ?_, (h.wk.each k hkw hk).2.2.2, ⟨h.n3 _ (List.getElem_mem hk), h.le k hk2 hk, h.n1, h.ln⟩⟩
  · rw [hc k (by omega)]
    have := wkCells_get ws S.work k hkw hk
    rw [List.getElem?_eq_getElem (by omega)] at this
    exact this
  · rw [(own_cell h.an.own k hkc).1, hq]

set_option maxRecDepth 100000 in
set_option maxHeartbeats 2000000 in
theorem lnext_out (H : LM W base L S fc fw) (n : Int) (h : ¬ (0 ≤ n ∧ n < S.work.length)) : Calls Try.prog 42 #[.pointer (some ⟨L, 0, none⟩), i64 n] W (NextTell W none) := by
  have HI := hid (fun w' (hb : Below W.heap.size W w') => lis_any (H.below hb) n)
  have e : (decide (0 ≤ n) && decide (n < S.work.length)) = false := by
    rw [Bool.and_eq_false_iff]
    by_cases h0 : 0 ≤ n
    · right; simp; omega
    · left; simpa using h0
  rw [e] at HI
  clear H h e
  go_enter Try.func42, Try.ntmps42
  go_upto_region 1 with (fail)
  go_quiet ((go_at_call 38; exact quiet_sym (HI.out _ (below_drewN ((Below.refl _ _).alloc (Nat.le_refl _) _) _))))
  go_wp2_with fail
  exact bodyPost_ret (v := .tuple #[ac0.val, .bool false]) (by simp [results, Try.results42, go_sem, ac0, Ac.val]) rfl ⟨rfl, by
    repeat (refine Below.setCell ?_ (by simp) _)
    exact below_drewN ((Below.refl _ _).alloc (Nat.le_refl _) _) _⟩

set_option maxRecDepth 100000 in
set_option maxHeartbeats 2000000 in
theorem lnext_done (H : LM W base L S fc fw) (k : Nat) (hk : k < S.work.length) (h : (S.said.getD k []).length = (S.work.getD k []).length) : Calls Try.prog 42 #[.pointer (some ⟨L, 0, none⟩), i64 k] W (NextTell W none) := by
  have HI := hid (fun w' (hb : Below W.heap.size W w') => lis_any (H.below hb) k)
  have e : (decide (0 ≤ (k : Int)) && decide ((k : Int) < S.work.length)) = true := by simp; omega
  rw [e] at HI
  obtain ⟨b, o, wc, g, ac, p1, c1, q1, qc, hw⟩ := H.at k hk
  generalize S.work.getD k [] = wl at *
  generalize S.said.getD k [] = sl at *
  obtain ⟨⟨l1, l2, l3⟩, k1, k2, k3, k4, _, b1, b2, b3, b4⟩ := hw
  have hkI : (k : Int) < S.work.length := by omega
  have hk0 : (0 : Int) ≤ (k : Int) := by omega
  have hkS : (k : Int) < S.said.length := by omega
  have hk2 : k < S.said.length := by omega
  have e1 : ((sl.length : Int) == wl.length) = true := by simp [h]
  have e2 : (sl.length == wl.length) = true := by simp [h]
  clear H h e b4
  go_enter Try.func42, Try.ntmps42
  go_upto_region 1 with (fail)
  go_quiet ((go_at_call 38; exact quiet_sym (HI.out _ (below_drewN ((Below.refl _ _).alloc (Nat.le_refl _) _) _))))
  go_wp2_with fail
  exact bodyPost_ret (v := .tuple #[ac0.val, .bool false]) (by simp [results, Try.results42, go_sem, ac0, Ac.val]) rfl ⟨rfl, by
    repeat (refine Below.setCell ?_ (by simp) _)
    exact below_drewN ((Below.refl _ _).alloc (Nat.le_refl _) _) _⟩

set_option maxRecDepth 100000 in
set_option maxHeartbeats 2000000 in
theorem lnext_has (H : LM W base L S fc fw) (k : Nat) (hk : k < S.work.length) (h : (S.said.getD k []).length < (S.work.getD k []).length) : Calls Try.prog 42 #[.pointer (some ⟨L, 0, none⟩), i64 k] W (NextTell W (some (S.work.getD k [])[(S.said.getD k []).length])) := by
  have HI := hid (fun w' (hb : Below W.heap.size W w') => lis_any (H.below hb) k)
  have e : (decide (0 ≤ (k : Int)) && decide ((k : Int) < S.work.length)) = true := by simp; omega
  rw [e] at HI
  obtain ⟨b, o, wc, g, ac, p1, c1, q1, qc, hw⟩ := H.at k hk
  generalize S.work.getD k [] = wl at *
  generalize S.said.getD k [] = sl at *
  obtain ⟨⟨l1, l2, l3⟩, k1, k2, k3, k4, hrow, b1, b2, b3, b4⟩ := hw
  obtain ⟨b5, o5, rfl, l5, _⟩ := hrow.at (by rw [acRow_len]; omega)
  obtain ⟨r0, r1, r2, r3⟩ := ac_cells hrow sl.length h
  generalize wl[sl.length] = x at *
  obtain ⟨ak, acl, ao, an⟩ := x
  dsimp only at *
  have hkI : (k : Int) < S.work.length := by omega
  have hk0 : (0 : Int) ≤ (k : Int) := by omega
  have hkS : (k : Int) < S.said.length := by omega
  have hk2 : k < S.said.length := by omega
  have hsI : (sl.length : Int) < wl.length := by omega
  have hs0 : (0 : Int) ≤ (sl.length : Int) := by omega
  have e1 : ((sl.length : Int) == wl.length) = false := by simp; omega
  have e2 : (sl.length == wl.length) = false := by simp; omega
  clear H e b4 hrow
  go_enter Try.func42, Try.ntmps42
  go_upto_region 1 with (fail)
  go_quiet ((go_at_call 38; exact quiet_sym (HI.out _ (below_drewN ((Below.refl _ _).alloc (Nat.le_refl _) _) _))))
  go_upto_region 3 with (fail)
  have up : ∀ w' (c j : Nat) (u : Value), Below W.heap.size W w' → c < W.heap.size → W.cell? ⟨c, j, none⟩ = some u → w'.cell? ⟨c, j, none⟩ = some u := fun w' c j u hb hl h => (hb.cell (p := ⟨c, j, none⟩) hl).trans h
  have f1 := fun w' hb => up w' _ _ _ hb l1 k1
  have f2 := fun w' hb => up w' _ _ _ hb l1 k2
  have f3 := fun w' hb => up w' _ _ _ hb l2 k3
  have f4 := fun w' hb => up w' _ _ _ hb l3 k4
  have f5 := fun w' hb => up w' _ _ _ hb l5 r0
  have f6 := fun w' hb => up w' _ _ _ hb l5 r1
  have f7 := fun w' hb => up w' _ _ _ hb l5 r2
  have f8 := fun w' hb => up w' _ _ _ hb l5 r3
  have HB0 : Hid (Below W.heap.size W (((W.alloc (.cells #[.int .i64 0, .int .i64 0, .int .i64 0, .int .i64 0] 34)).drewN nq).drew)) := (below_drewN ((Below.refl _ _).alloc (Nat.le_refl _) _) _).drew
  clear up
  go_region_held3 (fun w' => Below W.heap.size W w') (first | (with_reducible assumption) | (with_reducible exact HB0.out) | ((repeat (first | refine Below.drew ?_ | refine Below.setCell ?_ (by simp) _)); exact HB0.out) | ((repeat (first | refine Below.drew ?_ | refine Below.setCell ?_ (by simp) _)); exact below_drewN ((Below.refl _ _).alloc (Nat.le_refl _) _) _)) (first | fail)
  go_wp2_with fail
  exact bodyPost_ret (v := .tuple #[.agg #[i64 ak, i64 acl, i64 ao, i64 an], .bool true]) (by simp [results, Try.results42, go_sem]) rfl ⟨rfl, by
    repeat (refine Below.setCell ?_ (by simp) _)
    exact below_drewN ((Below.refl _ _).alloc (Nat.le_refl _) _) _⟩
end Go.Proofs.Ythmockfeffikjaa
/-! Done and Waits of a machine of lists. -/
namespace Go.Proofs.Ythmockfeffikjaa
open Go.RowKit
variable {W W' : World} {base L dm : Nat} {S : SL} {fm fa fw fc : Nat → Prop}

theorem lnext_any (H : LM W base L S fc fw) (n : Int) : Calls Try.prog 42 #[.pointer (some ⟨L, 0, none⟩), i64 n] W (NextTell W (S.next n)) := by
  by_cases h : 0 ≤ n ∧ n < S.work.length
  · obtain ⟨k, rfl⟩ : ∃ k : Nat, n = k := ⟨n.toNat, by omega⟩
    have hk : k < S.work.length := by omega
    have e : S.next k = (S.work.getD k [])[(S.said.getD k []).length]? := by unfold SL.next; rw [if_pos h, Int.toNat_natCast]
    have hle : (S.said.getD k []).length ≤ (S.work.getD k []).length := by
      obtain ⟨_, _, _, _, _, _, _, _, _, hw⟩ := H.at k hk
      exact hw.bd.2.1
    rw [e]
    by_cases h2 : (S.said.getD k []).length < (S.work.getD k []).length
    · rw [List.getElem?_eq_getElem h2]
      exact lnext_has H k hk h2
    · rw [List.getElem?_eq_none (by omega)]
      exact lnext_done H k hk (by omega)
  · have e : S.next n = none := by unfold SL.next; rw [if_neg h]
    rw [e]
    exact lnext_out H n h

theorem ldone_any (H : LM W base L S fc fw) (n : Int) : Calls Try.prog 26 #[.pointer (some ⟨L, 0, none⟩), i64 n] W fun e w' => e = .returned (.bool (S.doneN n)) ∧ Below W.heap.size W w' := by
  have HN := hid (lnext_any H n)
  have HD : Hid (S.doneN n = !(S.next n).isSome) := by unfold Hid SL.doneN; cases S.next n <;> rfl
  unfold NextTell at HN
  generalize (S.next n).getD ac0 = x at HN
  generalize (S.next n).isSome = t at HN HD
  obtain ⟨ak, acl, ao, an⟩ := x
  unfold Ac.val at HN
  dsimp only at HN
  clear H
  go_enter Try.func26, Try.ntmps26
  go_wp2_with (go_at_call 42; (with_reducible refine HN.out.mono ?_); rintro e w3 ⟨rfl, hb3⟩; have HB3 := hid hb3; clear hb3)
  go_ret
  exact ⟨ret_bool (by rw [HD.out]), HB3.out.alloc HB3.out.size _⟩

set_option maxRecDepth 100000 in
set_option maxHeartbeats 2000000 in
theorem lwaits_any (H : LM W base L S fc fw) (n : Int) : Calls Try.prog 27 #[.pointer (some ⟨L, 0, none⟩), i64 n] W fun e w' => e = .returned (.bool (S.waitsN n)) ∧ Below W.heap.size W w' := by
  have HN := hid (lnext_any H n)
  have HH := hid H
  obtain ⟨fm, fa, dm, wp, wc, ws, ap, ac, cs, h, _⟩ := H
  obtain ⟨c0, _, _, hl⟩ := h.cells
  have HM := hid h.mem
  clear h
  unfold NextTell at HN
  cases hn : S.next n with
  | none =>
    have HV : Hid (S.waitsN n = false) := by unfold Hid SL.waitsN; rw [hn]
    rw [hn] at HN
    unfold Ac.val at HN
    dsimp only [Option.getD_none, Option.isSome_none, ac0] at HN
    clear hn
    go_enter Try.func27, Try.ntmps27
    go_upto_region 2 with (go_at_call 42; (with_reducible refine HN.out.mono ?_); rintro e w3 ⟨rfl, hb3⟩; have HB3 := hid hb3; clear hb3)
    go_quiet (fail)
    go_wp2_with fail
    go_ret
    exact ⟨ret_bool (by rw [HV.out]), below_drewN (HB3.out.alloc HB3.out.size _) _⟩
  | some a =>
    have HV : Hid (S.waitsN n = ((S.mem.look n a).2.2 == 231)) := by unfold Hid SL.waitsN; rw [hn]
    rw [hn] at HN
    have HWT := hid (fun w' (hb : Below W.heap.size W w') => mwaits_any (HM.out.below hb) n a)
    obtain ⟨ak, acl, ao, an⟩ := a
    unfold Ac.val at HN HWT
    dsimp only [Option.getD_some, Option.isSome_some] at HN HWT
    clear hn
    go_enter Try.func27, Try.ntmps27
    go_upto_region 2 with (go_at_call 42; (with_reducible refine HN.out.mono ?_); rintro e w3 ⟨rfl, hb3⟩; have HB3 := hid hb3; clear hb3)
    obtain ⟨W1, hW1⟩ : ∃ W1, W1 = w3.alloc (.cells #[i64 ak, i64 acl, i64 ao, i64 an] 34) := ⟨_, rfl⟩
    rw [← hW1]
    have hA : AcBlk W1 w3.heap.size ⟨ak, acl, ao, an⟩ := by rw [hW1]; exact acblk_new w3 ⟨ak, acl, ao, an⟩
    have hB1 : Below W.heap.size W W1 := by rw [hW1]; exact HB3.out.alloc HB3.out.size _
    clear hW1
    have HA := hid hA
    have HB1 := hid hB1
    have f0 : ∀ w', Below W1.heap.size W1 w' → w'.cell? ⟨L, 0, none⟩ = some (.pointer (some ⟨dm, 0, none⟩)) := fun w' hb => ((HB1.out.trans (hb.mono HB1.out.size)).cell (p := ⟨L, 0, none⟩) hl).trans c0
    have f1 : ∀ w', Below W1.heap.size W1 w' → w'.cell? ⟨w3.heap.size, 0, none⟩ = some (i64 ak) := fun w' hb => (HA.out.below hb).facts.1.1
    have f2 : ∀ w', Below W1.heap.size W1 w' → w'.cell? ⟨w3.heap.size, 1, none⟩ = some (i64 acl) := fun w' hb => (HA.out.below hb).facts.1.2.1
    have f3 : ∀ w', Below W1.heap.size W1 w' → w'.cell? ⟨w3.heap.size, 2, none⟩ = some (i64 ao) := fun w' hb => (HA.out.below hb).facts.1.2.2.1
    have f4 : ∀ w', Below W1.heap.size W1 w' → w'.cell? ⟨w3.heap.size, 3, none⟩ = some (i64 an) := fun w' hb => (HA.out.below hb).facts.1.2.2.2
    have hS0 : Below W1.heap.size W1 W1.drew := (Below.refl _ _).drew
    clear c0 hA hB1
    go_region_held3 (fun w' => Below W1.heap.size W1 w') (first | (with_reducible assumption) | exact (Below.refl _ _).drew)
      (first | (go_at_call 44; (with_reducible refine (HWT.out _ (HB1.out.trans (Below.mono (by assumption) HB1.out.size))).mono ?_); rintro e w7 ⟨rfl, hb7⟩; have hq7 : Below W1.heap.size W1 w7 := below_more hb7 (by assumption) (Nat.le_refl _)))
    have HQ := hid hq7
    clear hq7 f0 f1 f2 f3 f4 hS0
    go_wp2_with fail
    go_ret
    exact ⟨ret_bool (by rw [HV.out]), HB1.out.trans (HQ.out.mono HB1.out.size)⟩
end Go.Proofs.Ythmockfeffikjaa
