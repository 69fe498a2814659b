/-
  The law's few: what it tells.
  Join as its callers see it.
-/
import Derived.Test.YthlingholhjcnaaJG2
import Derived.Test.YthlingholhjcnaaJO8
import Derived.Test.YthlingholhjcnaaJG1
namespace Go.Proofs.Ythlingholhjcnaa
open Go.RowKit
variable {W W' w w' : World}
def pcSum (l : List PtR) : Nat := (l.map (fun y => y.pieces.l.length)).sum
def unPcs (l : List UnR) : Nat := (l.map (fun u => pcSum u.parts.l)).sum
theorem ptCost_eq : ∀ l : List PtR, ptCost l = l.length + pcSum l
  | [] => rfl
  | a :: l => by have := ptCost_eq l; unfold ptCost pcSum at this ⊢; simp; omega
/-- What few's yes says of the first k units. -/
structure FewP (l : List UnR) (k : Nat) : Prop where
  u : ∀ u ∈ l.take k, u.parts.l.length ≤ 150 ∧ u.marks.l.length ≤ 300 ∧ u.globals.l.length ≤ 300
theorem few_cost : ∀ l : List UnR, (∀ u ∈ l, u.parts.l.length ≤ 150 ∧ u.marks.l.length ≤ 300 ∧ u.globals.l.length ≤ 300) → unCost l ≤ l.length * 750 + unPcs l
  | [], _ => Nat.le_refl _
  | a :: l, h => by
    have h1 := few_cost l (fun u hu => h u (List.mem_cons_of_mem _ hu))
    have h2 := h a (List.mem_cons_self ..)
    have h3 : a.cost = ptCost a.parts.l + a.marks.l.length + a.globals.l.length := rfl
    have h4 := ptCost_eq a.parts.l
    unfold unCost unPcs at h1 ⊢
    simp only [List.map_cons, List.sum_cons, List.length_cons]
    omega
/-- What few tells. -/
structure FewT (l : List UnR) (W : World) (e : Ending) (w' : World) : Prop where
  ex : ∃ b, e = .returned (.bool b) ∧ (b = true → l.length ≤ 40 ∧ unCost l ≤ 40000) ∧ Below W.heap.size W w'
set_option maxRecDepth 40000 in
set_option maxHeartbeats 4000000 in
theorem fewU_any (p : Option Addr) (c : Nat) (l : List UnR) (W : World) (hrow : Row W p (l.flatMap UnR.cells)) (hin : ∀ u ∈ l, u.ok W) (hlen : l.length ≤ c) (hcap : l.length ≤ 9000000000000) :
    Calls Try.prog 15 #[.slice p l.length c] W (FewT l W) := by
  obtain ⟨N, hN⟩ : ∃ N, N = l.length := ⟨_, rfl⟩
  obtain ⟨M, hM⟩ : ∃ M, M = min N 40 := ⟨_, rfl⟩
  have HN := hid hN
  have HM := hid hM
  have HROW := hid hrow
  have HIN := hid hin
  have hmin : min (N : Int) 40 = (M : Nat) := by rw [hM]; omega
  have hMN : M ≤ N := by omega
  have hM40 : M ≤ 40 := by omega
  rw [← hN] at hlen hcap ⊢
  have hMc : (M : Int) ≤ c := by omega
  have hMc2 : M ≤ c := by omega
  clear hrow hin hN hM
  go_enter Try.func15, Try.ntmps15
  go_wp2_with (fail)
  go_loopw [3, 14] (fun nv i wr => ∃ (k : Nat), k ≤ M ∧ i = .int .i64 k ∧ nv = .int .i64 ((min (unPcs (l.take k)) 1048576 : Nat) : Int) ∧ (∀ u ∈ l.take k, u.parts.l.length ≤ 150 ∧ u.marks.l.length ≤ 300 ∧ u.globals.l.length ≤ 300) ∧ Below W.heap.size W wr) (fun _ i _ => M - (intOf i).toNat)
  case atStart => exact ⟨0, Nat.zero_le _, rfl, rfl, (fun u hu => by simp at hu), Below.refl _ _⟩
  case round =>
    rename World => wr
    obtain ⟨k, hk, rfl, rfl, hfw, hb⟩ := hrel
    have HFW := hid hfw
    have HB := hid hb
    obtain ⟨a, ha⟩ : ∃ a, a = min (unPcs (l.take k)) 1048576 := ⟨_, rfl⟩
    have HA := hid ha
    rw [← ha]
    have ha2 : a ≤ 1048576 := by omega
    by_cases hlt : k < M
    · have hkI : (k : Int) < M := by omega
      have hkl : k < l.length := by have := HN.out; omega
      have hrow := HROW.out.below hb
      obtain ⟨b, o, rfl, hbl, -⟩ := hrow.at (by rw [flat_len UnR.cells 3 (fun _ => rfl)]; omega)
      obtain ⟨u0, u1, u2⟩ := unr_cells hrow k hkl
      have HUK := hid ((HIN.out _ (List.getElem_mem hkl)).below hb)
      have HTK : Hid (l.take (k + 1) = l.take k ++ [l[k]]) := by unfold Hid; rw [List.take_add_one, List.getElem?_eq_getElem hkl]; rfl
      generalize l[k] = u at *
      unfold Sl.val at u0 u1 u2
      obtain ⟨W5, hW5⟩ : ∃ W5, W5 = wr.alloc (.cells #[.slice u.parts.p u.parts.l.length u.parts.c, .slice u.marks.p u.marks.l.length u.marks.c, .slice u.globals.p u.globals.l.length u.globals.c] 32) := ⟨_, rfl⟩
      have HW5 := hid hW5
      have hb5 : Below wr.heap.size wr W5 := by rw [hW5]; exact alloc_below _ _
      have hx5 : W5.heap[wr.heap.size]? = some (.cells #[.slice u.parts.p u.parts.l.length u.parts.c, .slice u.marks.p u.marks.l.length u.marks.c, .slice u.globals.p u.globals.l.length u.globals.c] 32 (0, 0)) := by rw [hW5]; exact heap_alloc_new _ _
      obtain ⟨v0, v1, v2⟩ := un_cells hx5
      have HB5 : Hid (Below W.heap.size W W5) := hb.trans (hb5.mono hb.size)
      have HPR := hid (HUK.out.parts.1.row.below hb5)
      have HPK := hid HUK.out.parts.2
      obtain ⟨NP, hNP⟩ : ∃ NP, NP = u.parts.l.length := ⟨_, rfl⟩
      obtain ⟨NM, hNM⟩ : ∃ NM, NM = u.marks.l.length := ⟨_, rfl⟩
      obtain ⟨NG, hNG⟩ : ∃ NG, NG = u.globals.l.length := ⟨_, rfl⟩
      have HNS := hid (And.intro hNP (And.intro hNM hNG))
      rw [← hNP] at v0
      rw [← hNM] at v1
      rw [← hNG] at v2
      clear hfw hb ha hrow hb5 hx5 hW5 hNP hNM hNG
      go_upto_region 5 with (fail)
      rw [← HW5.out]
      clear u0 u1 u2
      have H150 : Hid (NP ≤ 150 ∨ ¬ NP ≤ 150) := Classical.em _
      by_cases b1 : (150 : Int) < NP
      · have d1 : decide ((150 : Int) < NP) = true := by simpa using b1
        go_wp2_with fail
        refine bodyPost_ret (v := .bool false) (by simp [results, Try.results15, go_sem]) rfl ?_
        exact ⟨⟨false, rfl, by simp, HB5.out⟩⟩
      · by_cases b2 : (300 : Int) < NM
        · have d1 : decide ((150 : Int) < NP) = false := by simpa using b1
          have d2 : decide ((300 : Int) < NM) = true := by simpa using b2
          go_wp2_with fail
          refine bodyPost_ret (v := .bool false) (by simp [results, Try.results15, go_sem]) rfl ?_
          exact ⟨⟨false, rfl, by simp, HB5.out⟩⟩
        · by_cases b3 : (300 : Int) < NG
          · have d1 : decide ((150 : Int) < NP) = false := by simpa using b1
            have d2 : decide ((300 : Int) < NM) = false := by simpa using b2
            have d3 : decide ((300 : Int) < NG) = true := by simpa using b3
            go_wp2_with fail
            refine bodyPost_ret (v := .bool false) (by simp [results, Try.results15, go_sem]) rfl ?_
            exact ⟨⟨false, rfl, by simp, HB5.out⟩⟩
          · have d1 : decide ((150 : Int) < NP) = false := by simpa using b1
            have d2 : decide ((300 : Int) < NM) = false := by simpa using b2
            have d3 : decide ((300 : Int) < NG) = false := by simpa using b3
            go_wp2_with fail
            go_loopw [3, 37] (fun nv i wy => ∃ (j : Nat), j ≤ NP ∧ i = .int .i64 j ∧ nv = .int .i64 ((min (unPcs (l.take k) + pcSum (u.parts.l.take j)) 1048576 : Nat) : Int) ∧ Below W.heap.size W wy ∧ Row wy u.parts.p (u.parts.l.flatMap PtR.cells)) (fun _ i _ => NP - (intOf i).toNat)
            case atStart => exact ⟨0, Nat.zero_le _, rfl, by rw [HA.out]; rfl, HB5.out, HPR.out⟩
            case round =>
              rename World => wy
              obtain ⟨j, hj, rfl, rfl, hby, hpr⟩ := hrel
              have HBY := hid hby
              have HPRY := hid hpr
              obtain ⟨a2, ha2'⟩ : ∃ a2, a2 = min (unPcs (l.take k) + pcSum (u.parts.l.take j)) 1048576 := ⟨_, rfl⟩
              have HA2 := hid ha2'
              rw [← ha2']
              have ha3 : a2 ≤ 1048576 := by omega
              by_cases hjl : j < NP
              · have hjI : (j : Int) < NP := by omega
                have hjl2 : j < u.parts.l.length := by rw [← HNS.out.1]; exact hjl
                obtain ⟨pb0, po, hpe, -, -⟩ := hpr.at (by rw [flat_len PtR.cells 4 (fun _ => rfl)]; omega)
                rw [hpe] at hpr
                obtain ⟨p0, p1, p2, p3⟩ := pt_ex hpr j hjl2
                rw [hpe]
                have hcap2 := (HPK.out _ (List.getElem_mem hjl2)).pieces.1.cap
                have HTJ : Hid (u.parts.l.take (j + 1) = u.parts.l.take j ++ [u.parts.l[j]]) := by unfold Hid; rw [List.take_add_one, List.getElem?_eq_getElem hjl2]; rfl
                generalize u.parts.l[j] = y at *
                obtain ⟨NQ, hNQ⟩ : ∃ NQ, NQ = y.pieces.l.length := ⟨_, rfl⟩
                have HNQ := hid hNQ
                rw [← hNQ] at p3 hcap2
                have hq2 : NQ ≤ 1000000000000 := by omega
                have hmn : min ((a2 : Int) + (NQ : Int)) 1048576 = ((min (a2 + NQ) 1048576 : Nat) : Int) := by omega
                have HRJ : Hid (min (a2 + NQ) 1048576 = min (unPcs (l.take k) + pcSum (u.parts.l.take (j + 1))) 1048576) := by
                  unfold Hid
                  rw [HTJ.out]
                  have e : pcSum (u.parts.l.take j ++ [y]) = pcSum (u.parts.l.take j) + NQ := by rw [HNQ.out]; unfold pcSum; simp
                  rw [e]
                  have := HA2.out
                  omega
                have HPE := hid hpe
                clear hby hpr hpe ha2' hNQ
                go_wp2_with fail
                exact ⟨⟨j + 1, by omega, by go_num, by rw [← HRJ.out], HBY.out.alloc HBY.out.size _, by rw [← HPE.out]; exact HPRY.out.alloc _⟩, by simp [intOf]; omega⟩
              · have hje : j = NP := by omega
                subst hje
                have HRK : Hid (a2 = min (unPcs (l.take (k + 1))) 1048576) := by
                  unfold Hid
                  rw [HA2.out, HTK.out, show u.parts.l.take j = u.parts.l from List.take_of_length_le (by rw [HNS.out.1]; exact Nat.le_refl _)]
                  have e : unPcs (l.take k ++ [u]) = unPcs (l.take k) + pcSum u.parts.l := by unfold unPcs; simp
                  rw [e]
                have HFK : Hid (∀ x ∈ l.take (k + 1), x.parts.l.length ≤ 150 ∧ x.marks.l.length ≤ 300 ∧ x.globals.l.length ≤ 300) := by
                  intro x hx
                  rw [HTK.out] at hx
                  rcases List.mem_append.1 hx with h1 | h1
                  · exact HFW.out x h1
                  · rw [List.mem_singleton.1 h1]
                    have := HNS.out
                    exact ⟨by omega, by omega, by omega⟩
                clear hby hpr ha2'
                go_wp2_with fail
                exact ⟨⟨k + 1, by omega, by go_num, by rw [← HRK.out], HFK.out, HBY.out⟩, by simp [intOf]; omega⟩
    · have hke : k = M := by omega
      subst hke
      clear hfw hb ha
      by_cases b1 : (N : Int) ≤ 40
      · have d1 : decide ((N : Int) ≤ 40) = true := by simpa using b1
        go_wp2_with fail
        refine bodyPost_ret (v := .bool (decide ((a : Int) ≤ 2000))) (by simp [results, Try.results15, go_sem]) rfl ?_
        refine ⟨⟨_, rfl, fun hb => ?_, HB.out⟩⟩
        have hkN : k = N := by have := HM.out; omega
        have hf := HFW.out
        have hA := HA.out
        rw [List.take_of_length_le (by rw [← HN.out]; omega)] at hf hA
        have h1 := few_cost l hf
        have h2 : (a : Int) ≤ 2000 := by simpa using hb
        rw [← HN.out] at h1
        have hN2 := HN.out
        exact ⟨by omega, by omega⟩
      · have d1 : decide ((N : Int) ≤ 40) = false := by simpa using b1
        go_wp2_with fail
        refine bodyPost_ret (v := .bool false) (by simp [results, Try.results15, go_sem]) rfl ?_
        exact ⟨⟨false, rfl, by simp, HB.out⟩⟩
end Go.Proofs.Ythlingholhjcnaa
namespace Go.Proofs.Ythlingholhjcnaa
open Go.RowKit
variable {W W' w w' : World}
def fcost (S : FP) : Nat := (S.ps.map (fun p => 1 + p.pieces.length)).sum + S.ms.length + S.gs.length
theorem fcost_pl (u : UnR) : fcost u.pl = u.cost := by
  unfold fcost UnR.cost ptCost UnR.pl
  simp only [List.map_map]
  congr 2
  congr 1
  refine List.map_congr_left (fun y _ => ?_)
  simp [PtR.pl]
def pcost (l : List Pt) : Nat := (l.map (fun p => 1 + p.pieces.length)).sum
theorem pcost_modify : ∀ (l : List Pt) (i : Nat) (a : List Pc), pcost (l.modify i (appPcs a)) ≤ pcost l + a.length
  | [], i, a => by simp [pcost]
  | p :: l, 0, a => by rw [List.modify_zero_cons]; simp [pcost, appPcs]; omega
  | p :: l, i + 1, a => by have := pcost_modify l i a; rw [List.modify_succ_cons]; simp [pcost] at this ⊢; omega
theorem pcost_jp (S : FP) (p : Pt) : pcost (S.joinPart p).1.ps ≤ pcost S.ps + (1 + p.pieces.length) := by
  unfold FP.joinPart FP.part
  cases idxO (S.ps.map Pt.name) p.name with
  | some i => have := pcost_modify S.ps i p.pieces; dsimp only [FP.putAll]; omega
  | none =>
    have := pcost_modify (S.ps ++ [(⟨p.name, p.file, p.line, []⟩ : Pt)]) S.ps.length p.pieces
    have e : pcost (S.ps ++ [(⟨p.name, p.file, p.line, []⟩ : Pt)]) = pcost S.ps + 1 := by simp [pcost]
    dsimp only [FP.putAll]
    omega
theorem pcost_jps (l : List Pt) : ∀ s : FP × List Nat × List Nat, pcost (joinParts s l).1.ps ≤ pcost s.1.ps + pcost l := by
  induction l with
  | nil => intro s; exact Nat.le_add_right _ _
  | cons p l ih =>
    intro s
    have h1 := ih (jpStep s p)
    have h2 := pcost_jp s.1 p
    have e : pcost (p :: l) = (1 + p.pieces.length) + pcost l := by simp [pcost]
    show pcost (joinParts (jpStep s p) l).1.ps ≤ _
    have e2 : (jpStep s p).1.ps = (s.1.joinPart p).1.ps := rfl
    rw [e2] at h1
    omega
theorem fcost_ju (S U : FP) : fcost (S.joinUnit U) ≤ fcost S + fcost U := by
  have h := pcost_jps U.ps (S, [], [])
  have e : fcost (S.joinUnit U) = pcost (joinParts (S, [], []) U.ps).1.ps + (S.ms.length + U.ms.length) + (S.gs.length + U.gs.length) := by
    show pcost (joinParts (S, [], []) U.ps).1.ps + (S.ms ++ _).length + (S.gs ++ _).length = _
    rw [List.length_append, List.length_append, List.length_map]
  have e2 : fcost S = pcost S.ps + S.ms.length + S.gs.length := rfl
  have e3 : fcost U = pcost U.ps + U.ms.length + U.gs.length := rfl
  dsimp only at h
  omega
theorem fcost_fold (l : List FP) : ∀ S, fcost (l.foldl FP.joinUnit S) ≤ fcost S + (l.map fcost).sum := by
  induction l with
  | nil => intro S; simp
  | cons u l ih => intro S; have h1 := ih (S.joinUnit u); have h2 := fcost_ju S u; rw [List.foldl_cons]; simp; omega
theorem fcost_join (l : List UnR) : fcost (joinP (l.map UnR.pl)) ≤ unCost l := by
  have h := fcost_fold (l.map UnR.pl) FP.nil
  have e : ((l.map UnR.pl).map fcost).sum = unCost l := by
    unfold unCost
    rw [List.map_map]
    congr 1
    exact List.map_congr_left (fun u _ => fcost_pl u)
  rw [e] at h
  have : fcost FP.nil = 0 := rfl
  unfold joinP
  omega
theorem row_take {α : Type} {f : α → List Value} {k : Nat} (hk : ∀ x, (f x).length = k) {l : List α} {p : Option Addr} (h : Row W p (l.flatMap f)) (n : Nat) : Row W p ((l.take n).flatMap f) := by
  have e : l.flatMap f = (l.take n).flatMap f ++ (l.drop n).flatMap f := by rw [← List.flatMap_append, List.take_append_drop]
  intro hne
  obtain ⟨b, o, rfl, hc⟩ := h (by rw [e]; intro h0; exact hne (List.append_eq_nil_iff.1 h0).1)
  refine ⟨b, o, rfl, fun i hi => ?_⟩
  rw [hc i (by rw [e, List.length_append]; omega)]
  simp only [e]
  rw [List.getElem_append_left hi]
theorem row_drop {α : Type} {f : α → List Value} {k : Nat} (hk : ∀ x, (f x).length = k) {l : List α} {b o : Nat} (h : Row W (some ⟨b, o, none⟩) (l.flatMap f)) (n : Nat) (hn : n ≤ l.length) : Row W (some ⟨b, o + n * k, none⟩) ((l.drop n).flatMap f) := by
  have e : l.flatMap f = (l.take n).flatMap f ++ (l.drop n).flatMap f := by rw [← List.flatMap_append, List.take_append_drop]
  have hl : ((l.take n).flatMap f).length = n * k := by rw [flat_len f k hk, List.length_take, Nat.min_eq_left hn, Nat.mul_comm]
  intro hne
  refine ⟨b, o + n * k, rfl, fun i hi => ?_⟩
  have h1 : n * k + i < (l.flatMap f).length := by rw [e, List.length_append, hl]; omega
  have := h.cell (n * k + i) h1
  rw [show o + n * k + i = o + (n * k + i) by omega, this]
  simp only [e]
  rw [List.getElem_append_right (by omega)]
  simp only [hl]
  congr 2
  omega
theorem own_nil {base : Nat} {e : TypeId} {size n m c : Nat} {p : Option Addr} {xs : List Value} (h : w.ownsRow base e size (.slice p m c) n xs) : p = none → c = 0 := by
  rintro rfl
  rcases h.2 with ⟨e1, _⟩ | ⟨g, cap, cur, e1, _⟩
  · injection e1
  · injection e1 with e2; cases e2
/-- What Join gives to its callers. -/
structure JX (w : World) (S : FP) (n : Nat) (u : UnR) : Prop where
  uin : UnIn w u
  pl : u.pl = S
  cost : u.cost ≤ n
  rd : ∃ X : FV, X.pv = u.parts.val ∧ X.mv = u.marks.val ∧ X.gv = u.globals.val ∧ UnRd w X ∧ X.pl = S
theorem JX.below {S : FP} {n : Nat} {u : UnR} (h : JX w S n u) (hb : Below w.heap.size w w') : JX w' S n u := by
  obtain ⟨X, e1, e2, e3, hr, hp⟩ := h.rd
  exact ⟨h.uin.below hb, h.pl, h.cost, X, e1, e2, e3, hr.below hb, hp⟩
def JoinR (W : World) (S : FP) (n : Nat) (e : Ending) (w' : World) : Prop := ∃ u : UnR, e = .returned (.agg #[.slice u.parts.p u.parts.l.length u.parts.c, .slice u.marks.p u.marks.l.length u.marks.c, .slice u.globals.p u.globals.l.length u.globals.c]) ∧ JX w' S n u ∧ Below W.heap.size W w'
theorem joinR_any (p : Option Addr) (c : Nat) (l : List UnR) (W : World) (hrow : Row W p (l.flatMap UnR.cells)) (hin : ∀ u ∈ l, UnIn W u) (hlen : l.length ≤ 1000000) (hcost : unCost l ≤ 2000000) :
    Calls Try.prog 16 #[.slice p l.length c] W (JoinR W (joinP (l.map UnR.pl)) (unCost l)) := by
  refine (join_any p c l W hrow hin hlen hcost).mono ?_
  rintro e w' ⟨⟨X, rfl, hF, hp, hs, hfv⟩, hb⟩
  obtain ⟨p0, c0, e0, -⟩ := own_shape hF.parts
  obtain ⟨p1, c1, e1, -⟩ := own_shape hF.marks
  obtain ⟨p2, c2, e2, -⟩ := own_shape hF.globals
  have hg := hF.globals
  rw [e2] at hg
  have hrd := hF.rd hs (by omega)
  have hu := hrd.uin e0 e1 e2 (own_nil hg)
  have hfs : X.fs = [] := by
    have h1 := congrArg FP.fs hp
    rw [(wf_join _).fs] at h1
    exact h1
  have hpl : UnR.pl ⟨⟨p0, c0, X.ps⟩, ⟨p1, c1, X.ms⟩, ⟨p2, c2, X.gs⟩⟩ = joinP (l.map UnR.pl) := by
    rw [← hp]
    unfold UnR.pl FV.pl
    rw [hfs]
  refine ⟨⟨⟨p0, c0, X.ps⟩, ⟨p1, c1, X.ms⟩, ⟨p2, c2, X.gs⟩⟩, by rw [e0, e1, e2], ⟨hu, hpl, ?_, X, e0, e1, e2, hrd, hp⟩, hb⟩
  rw [← fcost_pl, hpl]
  exact fcost_join l
theorem JX.same {S : FP} {n m : Nat} {u v : UnR} (h1 : JX w S n u) (h2 : JX w S m v) : Calls Try.prog 13 #[.agg #[.slice u.parts.p u.parts.l.length u.parts.c, .slice u.marks.p u.marks.l.length u.marks.c, .slice u.globals.p u.globals.l.length u.globals.c], .agg #[.slice v.parts.p v.parts.l.length v.parts.c, .slice v.marks.p v.marks.l.length v.marks.c, .slice v.globals.p v.globals.l.length v.globals.c]] w fun e w' => e = .returned (.bool true) ∧ Below w.heap.size w w' := by
  obtain ⟨X, a1, a2, a3, hr, hp⟩ := h1.rd
  obtain ⟨Y, b1, b2, b3, kr, kp⟩ := h2.rd
  have := same_rd hr kr (hp.trans kp.symm)
  rw [a1, a2, a3, b1, b2, b3] at this
  exact this
end Go.Proofs.Ythlingholhjcnaa
