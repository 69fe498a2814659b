/-
  few: what it means when it says yes.
  The table in plain words: how many steps are left; what comes of steps.
-/
import Derived.Test.YtabkmdhkfbcldaaJH10
namespace Go.Proofs.Ytabkmdhkfbcldaa
open Go.RowKit
variable {w w' : World}

theorem min_cast (a b : Nat) : ∃ n : Nat, n = min a b ∧ min (a : Int) (b : Int) = n ∧ n ≤ a ∧ n ≤ b := ⟨min a b, rfl, by omega, by omega, by omega⟩
/-- The lengths of the first lists, counted to 4096. -/
def capTo (zs : List AkR) : Nat → Nat
  | 0 => 0
  | k + 1 => min (capTo zs k + (zs.getD k (none, 0, [])).2.2.length) 4096
theorem capTo_le (zs : List AkR) : ∀ k, capTo zs k ≤ 4096
  | 0 => by simp [capTo]
  | k + 1 => by simp only [capTo]; omega
structure FewOk (zs : List AkR) (p : Nat) : Prop where
  n : capTo zs (min zs.length 70) ≤ 60 ∨ 1024 < capTo zs (min zs.length 70)
  p : p ≤ 2000
  k : ∀ i, i < min zs.length 70 → ∀ a ∈ (zs.getD i (none, 0, [])).2.2.take 100, a.key.size ≤ 600
/-- Tables of which few says yes, and New. -/
theorem FewOk.few {zs : List AkR} {p : Nat} (h : FewOk zs p) {n : Int} (hn : newTE n (lists zs) = 0) : totA (lists zs) ≤ 60 ∧ (1 ≤ n ∧ n ≤ 256) ∧ (1 ≤ zs.length ∧ zs.length ≤ 64) ∧ (∀ l ∈ lists zs, l.length ≤ 60) ∧ (∀ l ∈ lists zs, ∀ a ∈ l, a.key.size ≤ 600) ∧ (∀ l ∈ lists zs, l.any akBad = false) := by
  have hl : (lists zs).length = zs.length := by simp [lists]
  unfold newTE at hn
  rw [hl] at hn
  split at hn
  · cases hn
  next h1 =>
  split at hn
  · cases hn
  next h2 =>
  split at hn
  · cases hn
  next h3 =>
  have hcap : ∀ k, k ≤ zs.length → capTo zs k = totA ((lists zs).take k) := by
    intro k
    induction k with
    | zero => intro _; simp [capTo, totA]
    | succ k ih =>
      intro hk
      have h4 := totA_succ (lists zs) k (by rw [hl]; omega)
      have h5 := totA_take (lists zs) (k + 1)
      have h6 : (zs.getD k (none, 0, [])).2.2 = (lists zs)[k]'(by rw [hl]; omega) := by simp [lists, List.getD_eq_getElem?_getD, show k < zs.length by omega]
      rw [capTo, ih (by omega), h6, ← h4]
      omega
  have hmin : min zs.length 70 = zs.length := by omega
  have hN := h.n
  rw [hmin, hcap _ (Nat.le_refl _), List.take_of_length_le (by rw [hl]; exact Nat.le_refl _)] at hN
  have ht : totA (lists zs) ≤ 60 := by omega
  have hle : ∀ l ∈ lists zs, l.length ≤ 60 := fun l hm => Nat.le_trans (totA_mem _ l hm) ht
  refine ⟨ht, by omega, by omega, hle, fun l hm a ha => ?_, fun l hm => ?_⟩
  · obtain ⟨i, hi, rfl⟩ := List.getElem_of_mem hm
    have h7 := h.k i (by rw [hmin, ← hl]; exact hi) a
    have h6 : (zs.getD i (none, 0, [])).2.2 = (lists zs)[i] := by simp [lists, List.getD_eq_getElem?_getD, show i < zs.length by rw [← hl]; exact hi]
    rw [h6, List.take_of_length_le (by have := hle _ hm; omega)] at h7
    exact h7 ha
  · rw [Bool.not_eq_true, List.any_eq_false] at h3
    have := h3 l hm
    simpa using this
def FewTell (zs : List AkR) (p : Nat) (w : World) (e : Ending) (w' : World) : Prop := ∃ b, e = .returned (.bool b) ∧ (b = true → FewOk zs p) ∧ Below w.heap.size w w'
set_option maxRecDepth 20000 in
set_option maxHeartbeats 4000000 in
theorem few_any (wp : Option Addr) (wc : Nat) (zs : List AkR) (hA : AskIs w wp wc zs) (hq : ∀ z ∈ zs, z.2.2.length ≤ 4398046511104 ∧ ∀ a ∈ z.2.2, a.key.size ≤ 140737488351232) (kp : Option Addr) (kc p : Nat) (hp : p ≤ kc) (hkc : kc ≤ maxLen) :
    Calls Try.prog 12 #[.slice wp zs.length wc, .slice kp p kc] w (FewTell zs p w) := by
  obtain ⟨m, hm, hmI, hm1, hm2⟩ := min_cast zs.length 70
  have hmI : min (zs.length : Int) 70 = m := hmI
  have HM := hid hm
  have hwc := hA.c
  unfold maxLen at hwc hkc
  obtain ⟨hwc1, hwc2⟩ := hwc
  have hm0 : (0 : Int) ≤ m := by omega
  have hmc : (m : Int) ≤ wc := by omega
  have hmc2 : m ≤ wc := by omega
  have HA := hid hA
  have HQ := hid hq
  clear hm hA hq
  go_enter Try.func12, Try.ntmps12
  go_upto_region 2 with (fail)
  go_cut [14, 15, 16] from 10 to 16 (fun s nn i wx => s = .slice wp m wc ∧ nn = .int .i64 m ∧ i = .int .i64 0 ∧ wx = w)
  case first =>
    go_wp2_with fail
    all_goals
      have hme := HM.out
      go_meet
      refine ⟨?_, ?_, ?_, ?_⟩ <;> first | rfl | (congr 1; omega)
  case rest =>
    obtain ⟨rfl, rfl, rfl, hwc⟩ := hcut
    rw [hwc]
    clear hwc
    go_wp2_with fail
    go_loopw [5, 16] (fun nv i wr => ∃ k : Nat, k ≤ m ∧ i = .int .i64 k ∧ nv = .int .i64 (capTo zs k : Nat) ∧ (∀ i, i < k → ∀ a ∈ (zs.getD i (none, 0, [])).2.2.take 100, a.key.size ≤ 600) ∧ Below w.heap.size w wr) (fun _ i _ => m - (intOf i).toNat)
    case atStart => exact ⟨0, by omega, rfl, rfl, fun i hi => (by omega), Below.refl _ _⟩
    case round =>
      rename World => wx
      obtain ⟨k, hk, rfl, rfl, hks, hbx⟩ := hrel
      have HKS := hid hks
      have HBX := hid hbx
      clear hks hbx
      have hcl := capTo_le zs k
      by_cases hlt : k < m
      · have hkz : k < zs.length := by omega
        obtain ⟨b, o, rfl, hbl, hcell⟩ := akS_at HA.out (by omega)
        have hck := (HBX.out.cell (p := ⟨b, o + k, none⟩) hbl).trans (hcell k hkz)
        have HEX := hid (HA.out.each _ (List.getElem_mem hkz))
        have HQX := hid (HQ.out _ (List.getElem_mem hkz))
        have hgd : zs.getD k (none, 0, []) = zs[k] := by simp [List.getD_eq_getElem?_getD, hkz]
        have HSU : Hid (capTo zs (k + 1) = min (capTo zs k + zs[k].2.2.length) 4096) := by unfold Hid; rw [capTo, hgd]
        have HGD := hid hgd
        generalize zs[k] = z at *
        obtain ⟨zp, zc, l⟩ := z
        unfold akS at hck
        dsimp only at hck HEX HQX HSU
        have hlb := HQX.out.1
        clear hgd hcell
        have hlc := HEX.out.2.2
        unfold maxLen at hlc
        obtain ⟨hlc1, hlc2⟩ := hlc
        generalize capTo zs k = ck at *
        obtain ⟨s, hs, hsI, hs1, hs2⟩ := min_cast (ck + l.length) 4096
        have HS := hid hs
        have hsI' : min ((ck : Int) + l.length) 4096 = s := by have h := hsI; omega
        have hwr : IntKind.i64.wrap ((ck : Int) + (l.length : Nat)) = (ck : Int) + (l.length : Nat) := IntWalk.i64_in _ (by omega)
        obtain ⟨r, hr, hrI, hr1, hr2⟩ := min_cast l.length 100
        have hrI : min (l.length : Int) 100 = r := hrI
        have HR := hid hr
        have hr0 : (0 : Int) ≤ r := by omega
        have hrc : (r : Int) ≤ zc := by omega
        have hrc2 : r ≤ zc := by omega
        have HRW := hid (HEX.out.2.1.below HBX.out)
        clear hs hsI hr
        go_upto_region 5 with (fail)
        go_cut [5] from 20 to 24 (fun nv wx2 => nv = .int .i64 s ∧ wx2 = wx)
        case first =>
          go_wp2_with fail
          all_goals
            have hme := HS.out
            go_meet
            refine ⟨?_, ?_⟩ <;> first | rfl | (congr 1; omega)
        case rest =>
          obtain ⟨rfl, hwc⟩ := hcut
          rw [hwc]
          clear hwc
          go_upto_region 6 with (fail)
          go_cut [29, 30, 31] from 25 to 31 (fun s2 nn i wx2 => s2 = .slice zp r zc ∧ nn = .int .i64 r ∧ i = .int .i64 0 ∧ wx2 = wx)
          case first =>
            go_wp2_with fail
            all_goals
              have hme := HR.out
              go_meet
              refine ⟨?_, ?_, ?_, ?_⟩ <;> first | rfl | (congr 1; omega)
          case rest =>
            obtain ⟨rfl, rfl, rfl, hwc⟩ := hcut
            rw [hwc]
            clear hwc
            go_wp2_with fail
            go_loopw [31] (fun i wy => ∃ j : Nat, j ≤ r ∧ i = .int .i64 j ∧ (∀ a ∈ l.take j, a.key.size ≤ 600) ∧ Below wx.heap.size wx wy) (fun i _ => r - (intOf i).toNat)
            case atStart => exact ⟨0, by omega, rfl, fun a ha => (by simp at ha), Below.refl _ _⟩
            case round =>
              rename World => wy
              obtain ⟨j, hj, rfl, hkj, hby⟩ := hrel
              have HKJ := hid hkj
              have HBY := hid hby
              clear hkj hby
              by_cases hjl : j < r
              · have hjr : j < l.length := by omega
                obtain ⟨bb, oo, rfl, hbb, -⟩ := HEX.out.2.1.at (by have := flat_len Ak.cells 3 (fun _ => rfl) l; omega)
                obtain ⟨r0, r1, r2⟩ := ak_atR (HRW.out.below HBY.out) j hjr
                have hqa := HQX.out.2 _ (List.getElem_mem hjr)
                have HTK : Hid (l.take (j + 1) = l.take j ++ [l[j]]) := take_succ l j hjr
                generalize l[j] = ak at *
                obtain ⟨kd, ky, av⟩ := ak
                dsimp only at r0 r1 r2 hqa
                by_cases hbig : 600 < ky.size
                · have hbI : (600 : Int) < ky.size := by omega
                  go_wp2_with fail
                  go_ret
                  have hb := HBX.out.trans (HBY.out.mono HBX.out.size)
                  exact ⟨false, rfl, fun h => (by cases h), hb.alloc hb.size _⟩
                · have hbI : ¬ (600 : Int) < ky.size := by omega
                  have HNX : Hid (∀ a ∈ l.take (j + 1), a.key.size ≤ 600) := fun a ha => by
                    rw [HTK.out] at ha
                    rcases List.mem_append.1 ha with ha | ha
                    · exact HKJ.out a ha
                    · simp at ha; subst ha; show ky.size ≤ 600; omega
                  go_wp2_with fail
                  exact ⟨⟨j + 1, by omega, by go_num, HNX.out, HBY.out.alloc HBY.out.size _⟩, by simp [intOf]; omega⟩
              · have hje : j = r := by omega
                subst hje
                have HNK : Hid (∀ i, i < k + 1 → ∀ a ∈ (zs.getD i (none, 0, [])).2.2.take 100, a.key.size ≤ 600) := fun i hi a ha => by
                  by_cases e : i = k
                  · subst e
                    rw [HGD.out] at ha
                    refine HKJ.out a ?_
                    have h1 := HR.out
                    have : l.take 100 = l.take j := by
                      by_cases h2 : l.length ≤ 100
                      · rw [List.take_of_length_le h2, List.take_of_length_le (by omega)]
                      · have : j = 100 := by omega
                        rw [this]
                    rw [← this]; exact ha
                  · exact HKS.out i (by omega) a ha
                go_wp2_with fail
                refine ⟨⟨k + 1, by omega, by go_num, ?_, HNK.out, HBX.out.trans (HBY.out.mono HBX.out.size)⟩, by simp [intOf]; omega⟩
                rw [HSU.out, ← HS.out]
      · have hke : k = m := by omega
        subst hke
        have HF : Hid ((capTo zs k ≤ 60 ∨ 1024 < capTo zs k) → p ≤ 2000 → FewOk zs p) := fun h1 h2 => ⟨by rw [← HM.out]; exact h1, h2, by rw [← HM.out]; exact HKS.out⟩
        generalize capTo zs k = N at *
        have hpI : (p : Int) ≤ 9223372036854775807 := by omega
        go_wp2_with fail
        all_goals (go_ret; refine ⟨_, rfl, fun hb => ?_, HBX.out⟩; simp at hb; try (exact HF.out (by omega) (by omega)))
end Go.Proofs.Ytabkmdhkfbcldaa
namespace Go.Proofs.Ytabkmdhkfbcldaa
open Go.RowKit

def Sh.left (K : Wk) (S : Sh) (w : Nat) : Nat := 6 * ((K.own w).length - S.next.getD w 0) - (S.hand w).at_
def Sh.leftAll (K : Wk) (S : Sh) : Nat := ((List.range K.work.length).map (S.left K)).sum
variable {K : Wk} {S : Sh}
theorem sum_less (f g : Nat → Nat) (w : Nat) (h : ∀ v, v ≠ w → g v = f v) (hw : g w + 1 ≤ f w) : ∀ n, w < n → ((List.range n).map g).sum + 1 ≤ ((List.range n).map f).sum
  | 0, hn => by omega
  | n + 1, hn => by
    rw [List.range_succ, List.map_append, List.map_append, List.sum_append, List.sum_append]
    simp only [List.map_cons, List.map_nil, List.sum_cons, List.sum_nil]
    by_cases e : w = n
    · subst e
      have : (List.range w).map g = (List.range w).map f := List.map_congr_left fun v hv => h v (by have := List.mem_range.1 hv; omega)
      rw [this]; omega
    · have := sum_less f g w h hw n (by omega)
      rw [h n (fun e2 => e e2.symm)]; omega
theorem sum_own (l : List (List Ak)) : ((List.range l.length).map (fun w => 6 * (l.getD w []).length)).sum = 6 * totA l := by
  have e : (List.range l.length).map (fun w => 6 * (l.getD w []).length) = l.map (fun x => 6 * x.length) := List.ext_getElem (by simp) fun i h1 h2 => by
    have hi : i < l.length := by simpa using h1
    simp [List.getD_eq_getElem?_getD, hi]
  rw [e]
  clear e
  unfold totA
  induction l with
  | nil => rfl
  | cons x r ih => simp only [List.map_cons, List.sum_cons, ih]; omega
theorem start_left (K : Wk) : (Sh.start K).leftAll K = 6 * totA K.work := by
  rw [← sum_own]
  unfold Sh.leftAll
  congr 1
  refine List.map_congr_left fun w _ => ?_
  unfold Sh.left Wk.own
  have h1 : (Sh.start K).next.getD w 0 = 0 := getD_rep _ _ _
  have h2 : (Sh.start K).hand w = hn0 := getD_rep _ _ _
  rw [h1, h2]
  simp [hn0]
theorem end_next (S : Sh) (w : Nat) (hw : w < S.next.length) (n e : Int) : (S.endN w n e).next.getD w 0 = S.next.getD w 0 + 1 := by
  show (S.next.set w _).getD w 0 = _
  rw [getD_set _ _ hw, if_pos rfl]
theorem end_hand (S : Sh) (w : Nat) (hw : w < S.hands.length) (n e : Int) : (S.endN w n e).hand w = hn0 := by
  show (S.hands.set w hn0).getD w hn0 = _
  rw [getD_set _ _ hw, if_pos rfl]
theorem left_self (h : ShOk K S) {w : Nat} (hw : w < K.work.length) (hc : S.canN K w = true) : (S.stepN K w).left K w + 1 ≤ S.left K w := by
  have hnx := h.nx hw (can_facts hc).1
  have H := h.each w hw
  have hnl : w < S.next.length := by rw [h.nxl]; exact hw
  have hhl : w < S.hands.length := by rw [h.hnl]; exact hw
  have h5 : (S.hand w).at_ ≤ 5 := by
    by_cases h0 : (S.hand w).at_ = 0
    · omega
    · exact (H.inh h0).2.2
  have key : ∀ (S' : Sh) (x : Hn) (a : Nat), S'.hands = S.hands.set w x → S'.next = S.next → a + 1 ≤ x.at_ → x.at_ ≤ 5 → 6 * ((K.own w).length - S'.next.getD w 0) - (S'.hand w).at_ + 1 ≤ 6 * ((K.own w).length - S.next.getD w 0) - a := fun S' x a e1 e2 h1 h2 => by
    have e3 : S'.hand w = x := by unfold Sh.hand; rw [e1, getD_set _ _ hhl, if_pos rfl]
    rw [e2, e3]; omega
  have kend : ∀ (S' : Sh) (a : Nat), S'.hands = S.hands.set w hn0 → S'.next = S.next.set w (S.next.getD w 0 + 1) → a ≤ 5 → 6 * ((K.own w).length - S'.next.getD w 0) - (S'.hand w).at_ + 1 ≤ 6 * ((K.own w).length - S.next.getD w 0) - a := fun S' a e1 e2 h1 => by
    have e3 : S'.hand w = hn0 := by unfold Sh.hand; rw [e1, getD_set _ _ hhl, if_pos rfl]
    rw [e2, e3, getD_set _ _ hnl, if_pos rfl]
    show 6 * ((K.own w).length - (S.next.getD w 0 + 1)) - 0 + 1 ≤ _
    omega
  rw [step_is hc]
  unfold Sh.left
  rcases (show (S.hand w).at_ = 0 ∨ (S.hand w).at_ = 1 ∨ (S.hand w).at_ = 2 ∨ (S.hand w).at_ = 3 ∨ (S.hand w).at_ = 4 ∨ (S.hand w).at_ = 5 by omega) with e | e | e | e | e | e <;> (unfold Sh.body; simp only [e])
  · exact key _ ⟨1, false, S.calls.length⟩ 0 rfl rfl (by simp) (by simp)
  · exact key _ ⟨if (S.ask K w).kind = 1 ∧ S.get (S.ask K w).key = none then 2 else 4, (S.get (S.ask K w).key).isSome, (S.hand w).call⟩ 1 rfl rfl (by dsimp only; split <;> omega) (by dsimp only; split <;> omega)
  · exact key _ ⟨3, (S.hand w).found, (S.hand w).call⟩ 2 rfl rfl (by simp) (by simp)
  · exact key _ ⟨4, (S.hand w).found, (S.hand w).call⟩ 3 rfl rfl (by simp) (by simp)
  · split
    · exact kend _ 4 rfl rfl (by omega)
    · exact key _ ⟨5, (S.hand w).found, (S.hand w).call⟩ 4 rfl rfl (by simp) (by simp)
  · exact kend _ 5 rfl rfl (by omega)
theorem left_step (h : ShOk K S) {w : Nat} (hw : w < K.work.length) (hc : S.canN K w = true) : (S.stepN K w).leftAll K + 1 ≤ S.leftAll K ∧ (S.stepN K w).steps = S.steps + 1 := by
  refine ⟨sum_less (S.left K) ((S.stepN K w).left K) w (fun v hv => ?_) (left_self h hw hc) _ hw, by rw [step_is hc]⟩
  unfold Sh.left
  rw [step_next w (by rw [h.nxl]; exact hw) v hv, step_hand w (by rw [h.hnl]; exact hw) v hv]
/-- What holds of a table as it is run: so many steps at most. -/
structure RunOk (K : Wk) (M : Nat) (S : Sh) : Prop where
  ok : ShOk K S
  m : S.steps + S.leftAll K ≤ M
theorem can_lt {w : Nat} (hc : S.canN K w = true) : w < K.work.length := by
  have := (can_facts hc).1
  unfold Sh.doneN at this
  simp only [Bool.or_eq_false_iff, decide_eq_false_iff_not] at this
  omega
theorem RunOk.step {M : Nat} (HO : ∀ k, K.of k < K.shards) (h : RunOk K M S) (w : Nat) : RunOk K M (S.stepN K w) := by
  cases hc : S.canN K w with
  | false => rw [step_not hc]; exact h
  | true =>
    have hw := can_lt hc
    obtain ⟨h1, h2⟩ := left_step h.ok hw hc
    exact ⟨h.ok.step HO w hw, by have := h.m; omega⟩
theorem RunOk.stepI {M : Nat} (HO : ∀ k, K.of k < K.shards) (h : RunOk K M S) (w : Int) : RunOk K M (S.stepI K w) := by
  unfold Sh.stepI
  split
  · exact h
  · exact h.step HO _
/-- What every step keeps, so many steps keep. -/
def Reach (K : Wk) (S S' : Sh) : Prop := ∀ P : Sh → Prop, P S → (∀ S w, ShOk K S → S.canN K w = true → P S → P (S.stepN K w)) → P S'
theorem Reach.refl (S : Sh) : Reach K S S := fun _ h _ => h
theorem Reach.trans {S1 S2 : Sh} (h : Reach K S S1) (h2 : Reach K S1 S2) : Reach K S S2 := fun P h0 hs => h2 P (h P h0 hs) hs
theorem Reach.step (h : ShOk K S) (w : Nat) : Reach K S (S.stepN K w) := fun P h0 hs => by
  cases hc : S.canN K w with
  | false => rw [step_not hc]; exact h0
  | true => exact hs S w h hc h0
theorem Reach.stepI (h : ShOk K S) (w : Int) : Reach K S (S.stepI K w) := by
  unfold Sh.stepI
  split
  · exact Reach.refl S
  · exact Reach.step h _
end Go.Proofs.Ytabkmdhkfbcldaa
