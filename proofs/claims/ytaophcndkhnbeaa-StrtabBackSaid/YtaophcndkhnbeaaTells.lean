/-
  The law of StrtabTells.
-/
import Derived.Test.YtaophcndkhnbeaaRefFind
import Derived.Test.YtaophcndkhnbeaaEqRow
import Derived.Test.YtaophcndkhnbeaaLive
namespace Go.Proofs.Ytaophcndkhnbeaa
open Go.RowKit

theorem bytes_back (x : List Int) (wf : ∀ n ∈ x, (Lit.int .u8 n).wf = true) : u8s (x.map (fun n => UInt8.ofNat n.toNat)) = x.map (Value.int .u8) := by
  unfold u8s
  rw [List.map_map]
  apply List.map_congr_left
  intro n hn
  have := wf n hn
  have h2 : 0 ≤ n ∧ n < 256 := by
    simp [Lit.wf, IntKind.min, IntKind.max, IntKind.bits, IntKind.signed] at this
    omega
  simp only [Function.comp]
  congr 1
  rw [UInt8.toNat_ofNat']
  omega

set_option maxHeartbeats 2000000 in
theorem tells_walk (w : World) (p : Option Addr) (c : Nat) (x : List Int) (hc : x.length ≤ c) (hcm : c ≤ maxLen) (_ : p = none → c = 0) (wf : ∀ n ∈ x, (Lit.int .u8 n).wf = true) (row : Row w p (x.map (Value.int .u8)))
    (off : Int) (_ : (Lit.int .i64 off).wf = true) (name : ByteArray) (_ : name.size ≤ 140737488351232) :
    Calls Try.prog 6 #[.slice p x.length c, .int .i64 off, .string name] w fun e w' => e = .returned (.bool true) ∧ Below w.heap.size w w' := by
  obtain ⟨tab, htab⟩ : ∃ tab, tab = x.map (fun n => UInt8.ofNat n.toNat) := ⟨_, rfl⟩
  have hrow : Row w p (u8s tab) := by rw [htab, bytes_back x wf]; exact row
  have hl : x.length = tab.length := by rw [htab]; simp
  rw [hl] at hc ⊢
  unfold maxLen at hcm
  clear htab row wf hl
  by_cases hm : tab.length ≤ 1000
  · have HAC := hid (fun w1 (hb : Below w.heap.size w w1) => at_any p c tab off w1 hc (by omega) (hrow.below hb))
    have HAR := hid (fun w1 (hb : Below w.heap.size w w1) => refat_any p c tab off w1 hc (by omega) (hrow.below hb))
    have HFC := hid (fun w1 (hb : Below w.heap.size w w1) => find_any p c tab name w1 hc (by omega) (hrow.below hb))
    have HFR := hid (fun w1 (hb : Below w.heap.size w w1) => reffind_any p c tab name w1 hc (by omega) (hrow.below hb))
    have HCC := hid (fun w1 (hb : Below w.heap.size w w1) => chk_any p c tab w1 hc (by omega) (hrow.below hb))
    have HCR := hid (fun w1 (hb : Below w.heap.size w w1) => refchk_any p c tab w1 hc (by omega) (hrow.below hb))
    rw [← chk_eq] at HCR
    have HRC := hid (fun w1 (hb : Below w.heap.size w w1) => rows_any p c tab w1 hc (by omega) (hrow.below hb))
    have HRR := hid (fun w1 (hb : Below w.heap.size w w1) => refnames_any p c tab w1 hc (by omega) (hrow.below hb))
    have hnl := namesC_len tab
    generalize atC tab off = A at *
    generalize findC tab name = B at *
    generalize chkC tab = C at *
    generalize namesC tab = R at *
    have t1 : (A.1.toList == A.1.toList) = true := beq_self_eq_true _
    clear hrow
    go_enter Try.func6, Try.ntmps6
    go_wp2_with (first
      | (go_at_call 8; refine (live_any _).mono ?_; rintro e w1 ⟨rfl, hb1⟩)
      | (go_at_call 16; refine (HAC.out _ hb1).mono ?_; rintro e w2 ⟨rfl, hb⟩; have hb2 := hb1.trans (hb.mono hb1.size); clear hb)
      | (go_at_call 17; refine (HAR.out _ hb2).mono ?_; rintro e w3 ⟨rfl, hb⟩; have hb3 := hb2.trans (hb.mono hb2.size); clear hb)
      | (go_at_call 18; refine (HFC.out _ hb3).mono ?_; rintro e w4 ⟨rfl, hb⟩; have hb4 := hb3.trans (hb.mono hb3.size); clear hb)
      | (go_at_call 19; refine (HFR.out _ hb4).mono ?_; rintro e w5 ⟨rfl, hb⟩; have hb5 := hb4.trans (hb.mono hb4.size); clear hb)
      | (go_at_call 20; refine (HCC.out _ hb5).mono ?_; rintro e w6 ⟨rfl, hb⟩; have hb6 := hb5.trans (hb.mono hb5.size); clear hb)
      | (go_at_call 21; refine (HCR.out _ hb6).mono ?_; rintro e w7 ⟨rfl, hb⟩; have hb7 := hb6.trans (hb.mono hb6.size); clear hb)
      | (go_at_call 23; refine (HRC.out _ hb7).mono ?_; rintro e w8 ⟨v1, rfl, ho1, hb⟩; have hz7 := hb7.size; have hb8 := hb7.trans (hb.mono hz7); have hz8 := hb8.size; clear hb; obtain ⟨p1, c1, rfl, hr1⟩ := own_shape ho1)
      | (go_at_call 24; refine (HRR.out _ hb8).mono ?_; rintro e w9 ⟨v2, rfl, ho2, hb⟩; have hb9 := hb8.trans (hb.mono hz8); have hr3 := hr1.below hb; have hz9 := hb9.size; clear hb; obtain ⟨p2, c2, rfl, hr2⟩ := own_shape ho2)
      | (go_at_call 22; refine (eqR_any R (by omega) p1 p2 c1 c2 _ hr3 hr2).mono ?_; rintro e w10 ⟨rfl, hb⟩; have hb10 := hb9.trans (hb.mono hz9); clear hb))
    go_ret
    exact ⟨rfl, hb10⟩
  · have hmI : (1000 : Int) < tab.length := by omega
    go_enter Try.func6, Try.ntmps6
    go_wp2_with (go_at_call 8; refine (live_any _).mono ?_; rintro e w1 ⟨rfl, hb1⟩)
    go_ret
    exact ⟨rfl, hb1⟩
end Go.Proofs.Ytaophcndkhnbeaa
