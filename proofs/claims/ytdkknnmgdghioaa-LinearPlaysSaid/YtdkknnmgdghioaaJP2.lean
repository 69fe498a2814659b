/-
  The walk of LinearPlays.
-/
import Derived.Test.YtdkknnmgdghioaaJP1
namespace Go.Proofs.Ytdkknnmgdghioaa
open Go.RowKit

theorem plays_good {sc : List Dr} (hok : ∀ d ∈ sc, d.ok) : chkL (pRun 0 (sc.take 40) pS0).l = 0 ∧ Lin (pRun 0 (sc.take 40) pS0).l ∧ (pRun 0 (sc.take 40) pS0).l.length ≤ 40 ∧ ∀ i, i < (pRun 0 (sc.take 40) pS0).l.length → (cAt (pRun 0 (sc.take 40) pS0).l i).to ≤ maxI := by
  have hI := prun (sc.take 40) 0 pS0 (fun d hd => (hok d (List.mem_of_mem_take hd)).dr) pinv0
  have hl := plays_len hok 40
  obtain ⟨h1, h2⟩ := hI.legal
  refine ⟨chk_is (by omega) h1, h2, hl, fun i hi => ?_⟩
  have h3 := hI.to _ (cAt_mem i hi)
  have h4 : (sc.take 40).length ≤ 40 := by simp; omega
  unfold maxI; omega
theorem own_cap2 {w : World} {base : Nat} {L : List Cl} {q : Option Addr} {d : Nat} (h : OwnC w base (.slice q L.length d) L) : L.length ≤ d := by
  obtain ⟨q', d', e1, hd, _⟩ := own_row h
  cases e1; exact hd
theorem find_plays {L : List Cl} (h : chkL L = 0 ∧ Lin L ∧ L.length ≤ 40 ∧ ∀ i, i < L.length → (cAt L i).to ≤ maxI) (w1 : World) (q : Option Addr) (d base : Nat) (ho : OwnC w1 base (.slice q L.length d) L) :
    Calls Try.prog 10 #[.slice q L.length d] w1 fun e w' => ∃ (q : Option Addr) (d : Nat) (o : List Nat), e = .returned (.tuple #[.slice q o.length d, .bool true, .int .i64 0]) ∧ Legal L o ∧ Row w' q (o.map natV) ∧ Below w1.heap.size w1 w' := by
  obtain ⟨h1, h2, h3, h4⟩ := h
  obtain ⟨q', d', e1, hd, _, hr, _⟩ := own_row ho
  cases e1
  refine (find_any L q d w1 (by omega) hd (own_nilcap ho) hr h4).mono ?_
  rintro e w' ⟨v, o, is, rfl, hf, ho', hb⟩
  obtain ⟨q2, d2, rfl, hr2⟩ := own_shape ho'
  have his := (hf.lin h1).2 h2
  subst his
  rw [h1]
  exact ⟨q2, d2, o, rfl, hf.leg rfl, hr2, hb⟩
set_option maxRecDepth 20000 in
set_option maxHeartbeats 4000000 in
theorem plays_walk (w : World) (p : Option Addr) (c : Nat) (sc : List Dr) (hok : sc.length ≤ c ∧ c ≤ maxLen ∧ (p = none → c = 0) ∧ Row w p (sc.flatMap Dr.cells) ∧ (∀ x ∈ sc, x.ok) ∧ c * Try.prog.bytesOf 58 ≤ 140737488351232) :
    Calls Try.prog 6 #[.slice p sc.length c] w fun e w' => e = .returned (.bool true) ∧ Below w.heap.size w w' := by
  obtain ⟨hc1, hc2, -, hr, hk, hby⟩ := hok
  have e : Try.prog.bytesOf 58 = 24 := by kernel_rfl
  rw [e] at hby
  have HG := hid (plays_good hk)
  have HP := hid (fun (w1 : World) (hb : Below w.heap.size w w1) => plays_any sc p c w1 (by omega) hc1 (hr.below hb) hk)
  unfold PlayTell at HP
  have HN : Hid ((pRun 0 (sc.take 40) pS0).l.length ≤ 40) := HG.out.2.2.1
  clear hr hk e
  generalize (pRun 0 (sc.take 40) pS0).l = L at *
  go_enter Try.func6, Try.ntmps6
  go_wp2_with (first
    | (go_at_call 8; (with_reducible refine (live_any _).mono ?_); rintro e w1 ⟨rfl, hb1⟩; have HB1 := hid hb1; clear hb1)
    | (go_at_call 17; (with_reducible refine (HP.out _ HB1.out).mono ?_); rintro e w2 ⟨v, rfl, ho, hb2⟩; have HO := hid ho; have HB2 := hid (HB1.out.trans (hb2.mono HB1.out.size)); obtain ⟨q, d, rfl, -⟩ := own_shape ho; clear ho hb2)
    | (go_at_call 10; (with_reducible refine (find_plays HG.out _ _ _ _ HO.out).mono ?_); rintro e w3 ⟨q3, d3, o, rfl, hlg, hr3, hb3⟩; have HLG := hid hlg; have HR3 := hid hr3; have HB3 := hid (HB2.out.trans (hb3.mono HB2.out.size)); have HRL := hid ((own_slice_row HO.out).below hb3); have HCD := hid (own_cap2 HO.out); clear hlg hr3 hb3)
    | (go_at_call 13; (with_reducible refine (rlegal_any L _ _ o _ _ _ (by have := HN.out; omega) HCD.out HRL.out HR3.out HG.out.1 HLG.out).mono ?_); rintro e w4 ⟨rfl, hb4⟩; have HB4 := hid (HB3.out.trans (hb4.mono HB3.out.size)); clear hb4))
  go_ret
  exact ⟨rfl, HB4.out⟩
end Go.Proofs.Ytdkknnmgdghioaa
