/-
  plays: the walk (printed by genplays.py).
-/
import Derived.Test.YtdkknnmgdghioaaJP0
import Derived.Deep.DeepCutAuto
import Derived.IntWalk
namespace Go.Proofs.Ytdkknnmgdghioaa
open Go.RowKit

def PlayTell (sc : List Dr) (w : World) (e : Ending) (w' : World) : Prop := ∃ v, e = .returned v ∧ OwnC w' (w.heap.size + 2) v (pRun 0 (sc.take 40) pS0).l ∧ Below w.heap.size w w'
set_option maxRecDepth 20000 in
set_option maxHeartbeats 8000000 in
theorem plays_any (sc : List Dr) (p : Option Addr) (c : Nat) (w : World) (hl : sc.length ≤ 1000000000000000) (hc : sc.length ≤ c) (hrow : Row w p (sc.flatMap Dr.cells)) (hok : ∀ d ∈ sc, d.ok) :
    Calls Try.prog 17 #[.slice p sc.length c] w (PlayTell sc w) := by
  have HR := hid hrow
  have HOK := hid hok
  have HLE := hid (plays_len hok)
  obtain ⟨mm, hmm⟩ : ∃ mm : Nat, mm = min sc.length 40 := ⟨_, rfl⟩
  have hmx : min (sc.length : Int) 40 = (mm : Int) := by omega
  have hmc : (mm : Int) ≤ (c : Int) := by omega
  have hmc2 : mm ≤ c := by omega
  have hml : mm ≤ sc.length := by omega
  have hm40 : mm ≤ 40 := by omega
  have HMX := hid hmm
  have H0 := hid (PlI.start sc w)
  clear hrow hok hmm
  have hmk := @run_makeMap Try.prog
  go_enter Try.func17, Try.ntmps17
  go_wp2
  clear hmx hmk
  go_loopw [3, 22] (PlRel sc w) (fun _ i _ => mm - (intOf i).toNat)
  case atStart => exact ⟨0, [], [], pS0, Nat.zero_le _, rfl, H0.out⟩
  case round =>
    obtain ⟨k, mh, mf, s, hk, rfl, hpl⟩ := hrel
    have HP := hid hpl
    clear hpl
    rw [← HMX.out] at hk
    by_cases hlt : k < mm
    · have hkl : k < sc.length := by omega
      have hr1 := HR.out.below HP.out.below
      obtain ⟨bl, ol, rfl, hbl, -⟩ := hr1.at (by have := flat_len Dr.cells 6 (fun _ => rfl) sc; omega)
      obtain ⟨d0, d1, d2, d3, d4, d5⟩ := dr_cells hr1 k hkl
      have hdo := HOK.out _ (dAt_mem k hkl)
      have HSK := hid (fun h => HP.out.skip hkl (dat_at sc k hkl) h)
      have HDA := hid (dat_at sc k hkl)
      have HLN : Hid (s.l.length ≤ 40) := by have h1 := HLE.out k; rw [← HP.out.st] at h1; exact Nat.le_trans h1 (by omega)
      generalize dAt sc k = d at d0 d1 d2 d3 d4 d5 hdo HSK HDA
      obtain ⟨dw, dk, dy, dv, de, dp⟩ := d
      obtain ⟨⟨⟨w0, w1⟩, ⟨k0, k1⟩, ⟨y0, y1⟩, ⟨e0, e1⟩⟩, hv64⟩ := hdo
      dsimp only at w0 w1 k0 k1 y0 y1 e0 e1 hv64 d0 d1 d2 d3 d4 d5
      clear hr1
      obtain ⟨f, hf⟩ : ∃ f, s.fr (dw % 6) = f := ⟨_, rfl⟩
      obtain ⟨hh, hhv⟩ : ∃ hh, s.hv (dy % 4) = hh := ⟨_, rfl⟩
      have HSK2 : Hid (f < 0 ∨ 100 * (k : Int) + 300 ≤ f → PlI sc w (k + 1) u3 mh mf s wr) := fun h => HSK.out (by show s.fr (dw % 6) < 0 ∨ 100 * (k : Int) + 300 ≤ s.fr (dw % 6); rw [hf]; exact h)
      have HF := hid (show (alook mf (dw % 6)).getD 0 = f by rw [HP.out.fr, hf])
      have HH := hid (show alook mh (dy % 4) = hh by rw [HP.out.hv, hhv])
      have HFE := hid hf
      have HHE := hid hhv
      have hsz := HP.out.below.size
      clear hf hhv HSK
      go_upto_region 10 with (fail)
      obtain ⟨w5, hw5⟩ : ∃ w5, w5 = wr.alloc (.cells #[.int .u8 dw, .int .u8 dk, .int .u8 dy, .int .i64 dv, .int .u8 de, .bool dp] 58) := ⟨_, rfl⟩
      rw [← hw5]
      have hD : w5.heap[wr.heap.size]? = some (.cells #[.int .u8 dw, .int .u8 dk, .int .u8 dy, .int .i64 dv, .int .u8 de, .bool dp] 58 (0, 0)) := by rw [hw5]; exact heap_alloc_new wr _
      have hb5 : Below wr.heap.size wr w5 := by rw [hw5]; exact (Below.refl _ _).alloc (Nat.le_refl _) _
      have hs5 : w5.heap.size = wr.heap.size + 1 := by rw [hw5]; simp
      have HP5 := hid (HP.out.belowI hb5)
      have HB5 := hid hb5
      have HD := hid hD
      have g0 := cell_of_row _ _ 0 _ _ _ hD
      have g1 := cell_of_row _ _ 1 _ _ _ hD
      have g2 := cell_of_row _ _ 2 _ _ _ hD
      have g3 := cell_of_row _ _ 3 _ _ _ hD
      have g4 := cell_of_row _ _ 4 _ _ _ hD
      have g5 := cell_of_row _ _ 5 _ _ _ hD
      clear hw5 hD hb5 d0 d1 d2 d3 d4 d5
      by_cases hf0 : f < 0
      · have HNX := hid (HSK2.out (.inl hf0))
        go_wp2_with (((with_reducible show wpList _ _ _ (⟨some 39, _, _, _, _, _⟩ :: _) _ _); refine wpList_free (by rfl) (.tmp 37) (.tmp 38) rfl _ rfl HP5.out.imf (dw % 6) rfl f HF.out ?_))
        exact ⟨⟨k + 1, mh, mf, s, by have := HMX.out; omega, by go_num, HNX.out.belowI HB5.out⟩, by simp [intOf]; omega⟩
      · by_cases hf1 : 100 * (k : Int) + 300 ≤ f
        · have HNX := hid (HSK2.out (.inr hf1))
          go_wp2_with (first
            | ((with_reducible show wpList _ _ _ (⟨some 39, _, _, _, _, _⟩ :: _) _ _); refine wpList_free (by rfl) (.tmp 37) (.tmp 38) rfl _ rfl HP5.out.imf (dw % 6) rfl f HF.out ?_)
            | ((with_reducible show wpList _ _ _ (⟨some 44, _, _, _, _, _⟩ :: _) _ _); refine wpList_free (by rfl) (.tmp 42) (.tmp 43) rfl _ rfl HP5.out.imf (dw % 6) rfl f HF.out ?_))
          exact ⟨⟨k + 1, mh, mf, s, by have := HMX.out; omega, by go_num, HNX.out.belowI HB5.out⟩, by simp [intOf]; omega⟩
        · have hcv : (convert 59 9 (.slice (some ⟨wr.heap.size + 1, 0, none⟩) 1 1)).run Try.prog (w5.alloc (.cells #[.int .u8 (97 + dy % 4)] 5)) = .ok (.string (nameOf (dy % 4))) (w5.alloc (.cells #[.int .u8 (97 + dy % 4)] 5)) := conv1 (by rw [← hs5]; exact heap_alloc_new w5 _)
          clear HSK2
          by_cases hkd : dk % 2 = 0
          · have HKD := hid hkd
            go_upto_region 12 with (first
              | ((with_reducible show wpList _ _ _ (⟨some 39, _, _, _, _, _⟩ :: _) _ _); refine wpList_free (by rfl) (.tmp 37) (.tmp 38) rfl _ rfl HP5.out.imf (dw % 6) rfl f HF.out ?_)
              | ((with_reducible show wpList _ _ _ (⟨some 44, _, _, _, _, _⟩ :: _) _ _); refine wpList_free (by rfl) (.tmp 42) (.tmp 43) rfl _ rfl HP5.out.imf (dw % 6) rfl f HF.out ?_)
              | ((with_reducible show wpList _ _ _ (⟨some 66, _, _, _, _, _⟩ :: _) _ _); refine wpList_free (by rfl) (.tmp 64) (.tmp 65) rfl _ rfl (HP5.out.imf.alloc _) (dw % 6) rfl f HF.out ?_))
            obtain ⟨fr, hfr⟩ : ∃ fr, fr = max (100 * (k : Int) + 300 - 10 - de) f := ⟨_, rfl⟩
            obtain ⟨te, hte⟩ : ∃ te, te = 100 * (k : Int) + 300 + 10 + de := ⟨_, rfl⟩
            have HFR := hid hfr
            have HTE := hid hte
            obtain ⟨w6, hw6⟩ : ∃ w6, w6 = (w5.alloc (.cells #[.int .u8 (97 + dy % 4)] 5)).alloc (.cells #[.int .i64 (dw % 6), .int .i64 1, .string (nameOf (dy % 4)), .int .i64 0, .int .i64 (max (100 * (k : Int) + 300 - 10 - de) f), .int .i64 (100 * (k : Int) + 300 + 10 + de), .int .i64 0, .int .i64 0] 38) := ⟨_, rfl⟩
            rw [← hw6]
            rw [← hfr, ← hte] at hw6
            have HJ6 : Hid (PlJ w wr u3 s.l mh mf ⟨dw, dk, dy, dv, de, dp⟩ ⟨dw % 6, 1, nameOf (dy % 4), 0, fr, te, 0, 0⟩ w6) := by rw [hw6]; exact PlJ.start (d := ⟨dw, dk, dy, dv, de, dp⟩) (c := ⟨dw % 6, 1, nameOf (dy % 4), 0, fr, te, 0, 0⟩) HP.out HB5.out hs5 HD.out _
            clear hw6 hfr hte hcv g0 g1 g2 g3 g4 g5 hs5
            cases hh with
            | some v =>
              cases dp with
              | true =>
                have c0 : w6.cell? ⟨wr.heap.size + 1 + 1, 0, none⟩ = some (.int .i64 (dw % 6)) := cell_of_row _ _ 0 _ _ _ HJ6.out.c
                have c1 : w6.cell? ⟨wr.heap.size + 1 + 1, 1, none⟩ = some (.int .i64 1) := cell_of_row _ _ 1 _ _ _ HJ6.out.c
                have c2 : w6.cell? ⟨wr.heap.size + 1 + 1, 2, none⟩ = some (.string (nameOf (dy % 4))) := cell_of_row _ _ 2 _ _ _ HJ6.out.c
                have c3 : w6.cell? ⟨wr.heap.size + 1 + 1, 3, none⟩ = some (.int .i64 0) := cell_of_row _ _ 3 _ _ _ HJ6.out.c
                have c4 : w6.cell? ⟨wr.heap.size + 1 + 1, 4, none⟩ = some (.int .i64 fr) := cell_of_row _ _ 4 _ _ _ HJ6.out.c
                have c5 : w6.cell? ⟨wr.heap.size + 1 + 1, 5, none⟩ = some (.int .i64 te) := cell_of_row _ _ 5 _ _ _ HJ6.out.c
                have c6 : w6.cell? ⟨wr.heap.size + 1 + 1, 6, none⟩ = some (.int .i64 0) := cell_of_row _ _ 6 _ _ _ HJ6.out.c
                have c7 : w6.cell? ⟨wr.heap.size + 1 + 1, 7, none⟩ = some (.int .i64 0) := cell_of_row _ _ 7 _ _ _ HJ6.out.c
                have z3 : w6.frozen? ⟨wr.heap.size + 1 + 1, 3, none⟩ = false := frozen_of_row _ _ 3 _ _ HJ6.out.c
                have z5 : w6.frozen? ⟨wr.heap.size + 1 + 1, 5, none⟩ = false := frozen_of_row _ _ 5 _ _ HJ6.out.c
                have z6 : w6.frozen? ⟨wr.heap.size + 1 + 1, 6, none⟩ = false := frozen_of_row _ _ 6 _ _ HJ6.out.c
                have z7 : w6.frozen? ⟨wr.heap.size + 1 + 1, 7, none⟩ = false := frozen_of_row _ _ 7 _ _ HJ6.out.c
                have g3 : w6.cell? ⟨wr.heap.size, 3, none⟩ = some (.int .i64 dv) := cell_of_row _ _ 3 _ _ _ HJ6.out.d
                have g5 : w6.cell? ⟨wr.heap.size, 5, none⟩ = some (.bool true) := cell_of_row _ _ 5 _ _ _ HJ6.out.d
                go_upto_region 21 with ((with_reducible show wpList _ _ _ (⟨some 78, _, _, _, _, _⟩ :: _) _ _); refine wpList_have rfl (.tmp 76) (.tmp 77) rfl _ rfl HJ6.out.imh (dy % 4) rfl _ HH.out ?_)
                have HJ8 := hid ((HJ6.out.setV dv).setE 5)
                clear c0 c1 c2 c3 c4 c5 c6 c7 g3 g5 z3 z5 z6 z7
                obtain ⟨w8, hnm⟩ : ∃ x, x = ((w6.setCell ⟨wr.heap.size + 1 + 1, 3, none⟩ (.int .i64 dv)).setCell ⟨wr.heap.size + 1 + 1, 7, none⟩ (.int .i64 5)) := ⟨_, rfl⟩
                rw [← hnm] at HJ8 ⊢
                clear hnm
                have c0 : w8.cell? ⟨wr.heap.size + 1 + 1, 0, none⟩ = some (.int .i64 (dw % 6)) := cell_of_row _ _ 0 _ _ _ HJ8.out.c
                have c1 : w8.cell? ⟨wr.heap.size + 1 + 1, 1, none⟩ = some (.int .i64 1) := cell_of_row _ _ 1 _ _ _ HJ8.out.c
                have c2 : w8.cell? ⟨wr.heap.size + 1 + 1, 2, none⟩ = some (.string (nameOf (dy % 4))) := cell_of_row _ _ 2 _ _ _ HJ8.out.c
                have c3 : w8.cell? ⟨wr.heap.size + 1 + 1, 3, none⟩ = some (.int .i64 dv) := cell_of_row _ _ 3 _ _ _ HJ8.out.c
                have c4 : w8.cell? ⟨wr.heap.size + 1 + 1, 4, none⟩ = some (.int .i64 fr) := cell_of_row _ _ 4 _ _ _ HJ8.out.c
                have c5 : w8.cell? ⟨wr.heap.size + 1 + 1, 5, none⟩ = some (.int .i64 te) := cell_of_row _ _ 5 _ _ _ HJ8.out.c
                have c6 : w8.cell? ⟨wr.heap.size + 1 + 1, 6, none⟩ = some (.int .i64 0) := cell_of_row _ _ 6 _ _ _ HJ8.out.c
                have c7 : w8.cell? ⟨wr.heap.size + 1 + 1, 7, none⟩ = some (.int .i64 5) := cell_of_row _ _ 7 _ _ _ HJ8.out.c
                have z3 : w8.frozen? ⟨wr.heap.size + 1 + 1, 3, none⟩ = false := frozen_of_row _ _ 3 _ _ HJ8.out.c
                have z5 : w8.frozen? ⟨wr.heap.size + 1 + 1, 5, none⟩ = false := frozen_of_row _ _ 5 _ _ HJ8.out.c
                have z6 : w8.frozen? ⟨wr.heap.size + 1 + 1, 6, none⟩ = false := frozen_of_row _ _ 6 _ _ HJ8.out.c
                have z7 : w8.frozen? ⟨wr.heap.size + 1 + 1, 7, none⟩ = false := frozen_of_row _ _ 7 _ _ HJ8.out.c
                have g3 : w8.cell? ⟨wr.heap.size, 3, none⟩ = some (.int .i64 dv) := cell_of_row _ _ 3 _ _ _ HJ8.out.d
                have g5 : w8.cell? ⟨wr.heap.size, 5, none⟩ = some (.bool true) := cell_of_row _ _ 5 _ _ _ HJ8.out.d
                go_upto_region 22 with ((with_reducible show wpList _ _ _ (⟨none, Op.mapUpdate 56 _ _ _, _, _, _, _⟩ :: _) _ _); refine wpList_mapset K3 Try.underlying56 rfl (.tmp 108) (.tmp 109) (.tmp 111) (.inl rfl) (w.heap.size + 1) mf rfl HJ8.out.imf (dw % 6) rfl te rfl ?_; clear c0 c1 c2 c3 c4 c5 c6 c7 g3 g5 z3 z5 z6 z7; intro w9 hm9 hg9; have HJ9 := hid (HJ8.out.setf hm9 hg9); clear hm9 hg9)
                have c0 : w9.cell? ⟨wr.heap.size + 1 + 1, 0, none⟩ = some (.int .i64 (dw % 6)) := cell_of_row _ _ 0 _ _ _ HJ9.out.c
                have c1 : w9.cell? ⟨wr.heap.size + 1 + 1, 1, none⟩ = some (.int .i64 1) := cell_of_row _ _ 1 _ _ _ HJ9.out.c
                have c2 : w9.cell? ⟨wr.heap.size + 1 + 1, 2, none⟩ = some (.string (nameOf (dy % 4))) := cell_of_row _ _ 2 _ _ _ HJ9.out.c
                have c3 : w9.cell? ⟨wr.heap.size + 1 + 1, 3, none⟩ = some (.int .i64 dv) := cell_of_row _ _ 3 _ _ _ HJ9.out.c
                have c4 : w9.cell? ⟨wr.heap.size + 1 + 1, 4, none⟩ = some (.int .i64 fr) := cell_of_row _ _ 4 _ _ _ HJ9.out.c
                have c5 : w9.cell? ⟨wr.heap.size + 1 + 1, 5, none⟩ = some (.int .i64 te) := cell_of_row _ _ 5 _ _ _ HJ9.out.c
                have c6 : w9.cell? ⟨wr.heap.size + 1 + 1, 6, none⟩ = some (.int .i64 0) := cell_of_row _ _ 6 _ _ _ HJ9.out.c
                have c7 : w9.cell? ⟨wr.heap.size + 1 + 1, 7, none⟩ = some (.int .i64 5) := cell_of_row _ _ 7 _ _ _ HJ9.out.c
                have z3 : w9.frozen? ⟨wr.heap.size + 1 + 1, 3, none⟩ = false := frozen_of_row _ _ 3 _ _ HJ9.out.c
                have z5 : w9.frozen? ⟨wr.heap.size + 1 + 1, 5, none⟩ = false := frozen_of_row _ _ 5 _ _ HJ9.out.c
                have z6 : w9.frozen? ⟨wr.heap.size + 1 + 1, 6, none⟩ = false := frozen_of_row _ _ 6 _ _ HJ9.out.c
                have z7 : w9.frozen? ⟨wr.heap.size + 1 + 1, 7, none⟩ = false := frozen_of_row _ _ 7 _ _ HJ9.out.c
                have g3 : w9.cell? ⟨wr.heap.size, 3, none⟩ = some (.int .i64 dv) := cell_of_row _ _ 3 _ _ _ HJ9.out.d
                have g5 : w9.cell? ⟨wr.heap.size, 5, none⟩ = some (.bool true) := cell_of_row _ _ 5 _ _ _ HJ9.out.d
                go_upto_region 24 with (fail)
                have HJ10 := hid (((HJ9.out.setT (-1)).setE 0).setA 0)
                clear c0 c1 c2 c3 c4 c5 c6 c7 g3 g5 z3 z5 z6 z7
                obtain ⟨w10, hnm⟩ : ∃ x, x = (((w9.setCell ⟨wr.heap.size + 1 + 1, 5, none⟩ (.int .i64 (-1))).setCell ⟨wr.heap.size + 1 + 1, 7, none⟩ (.int .i64 0)).setCell ⟨wr.heap.size + 1 + 1, 6, none⟩ (.int .i64 0)) := ⟨_, rfl⟩
                rw [← hnm] at HJ10 ⊢
                clear hnm
                have c0 : w10.cell? ⟨wr.heap.size + 1 + 1, 0, none⟩ = some (.int .i64 (dw % 6)) := cell_of_row _ _ 0 _ _ _ HJ10.out.c
                have c1 : w10.cell? ⟨wr.heap.size + 1 + 1, 1, none⟩ = some (.int .i64 1) := cell_of_row _ _ 1 _ _ _ HJ10.out.c
                have c2 : w10.cell? ⟨wr.heap.size + 1 + 1, 2, none⟩ = some (.string (nameOf (dy % 4))) := cell_of_row _ _ 2 _ _ _ HJ10.out.c
                have c3 : w10.cell? ⟨wr.heap.size + 1 + 1, 3, none⟩ = some (.int .i64 dv) := cell_of_row _ _ 3 _ _ _ HJ10.out.c
                have c4 : w10.cell? ⟨wr.heap.size + 1 + 1, 4, none⟩ = some (.int .i64 fr) := cell_of_row _ _ 4 _ _ _ HJ10.out.c
                have c5 : w10.cell? ⟨wr.heap.size + 1 + 1, 5, none⟩ = some (.int .i64 (-1)) := cell_of_row _ _ 5 _ _ _ HJ10.out.c
                have c6 : w10.cell? ⟨wr.heap.size + 1 + 1, 6, none⟩ = some (.int .i64 0) := cell_of_row _ _ 6 _ _ _ HJ10.out.c
                have c7 : w10.cell? ⟨wr.heap.size + 1 + 1, 7, none⟩ = some (.int .i64 0) := cell_of_row _ _ 7 _ _ _ HJ10.out.c
                have z3 : w10.frozen? ⟨wr.heap.size + 1 + 1, 3, none⟩ = false := frozen_of_row _ _ 3 _ _ HJ10.out.c
                have z5 : w10.frozen? ⟨wr.heap.size + 1 + 1, 5, none⟩ = false := frozen_of_row _ _ 5 _ _ HJ10.out.c
                have z6 : w10.frozen? ⟨wr.heap.size + 1 + 1, 6, none⟩ = false := frozen_of_row _ _ 6 _ _ HJ10.out.c
                have z7 : w10.frozen? ⟨wr.heap.size + 1 + 1, 7, none⟩ = false := frozen_of_row _ _ 7 _ _ HJ10.out.c
                have g3 : w10.cell? ⟨wr.heap.size, 3, none⟩ = some (.int .i64 dv) := cell_of_row _ _ 3 _ _ _ HJ10.out.d
                have g5 : w10.cell? ⟨wr.heap.size, 5, none⟩ = some (.bool true) := cell_of_row _ _ 5 _ _ _ HJ10.out.d
                go_upto_region 25 with ((with_reducible show wpList _ _ _ (⟨none, Op.mapUpdate 56 _ _ _, _, _, _, _⟩ :: _) _ _); refine wpList_mapset K3 Try.underlying56 rfl (.tmp 117) (.tmp 118) (.const (.int .i64 (-1))) (.inl rfl) (w.heap.size + 1) (aset mf (dw % 6) te) rfl HJ10.out.imf (dw % 6) rfl (-1) rfl ?_; clear c0 c1 c2 c3 c4 c5 c6 c7 g3 g5 z3 z5 z6 z7; intro w11 hm9 hg9; have HJ11 := hid (HJ10.out.setf hm9 hg9); clear hm9 hg9)
                have c0 : w11.cell? ⟨wr.heap.size + 1 + 1, 0, none⟩ = some (.int .i64 (dw % 6)) := cell_of_row _ _ 0 _ _ _ HJ11.out.c
                have c1 : w11.cell? ⟨wr.heap.size + 1 + 1, 1, none⟩ = some (.int .i64 1) := cell_of_row _ _ 1 _ _ _ HJ11.out.c
                have c2 : w11.cell? ⟨wr.heap.size + 1 + 1, 2, none⟩ = some (.string (nameOf (dy % 4))) := cell_of_row _ _ 2 _ _ _ HJ11.out.c
                have c3 : w11.cell? ⟨wr.heap.size + 1 + 1, 3, none⟩ = some (.int .i64 dv) := cell_of_row _ _ 3 _ _ _ HJ11.out.c
                have c4 : w11.cell? ⟨wr.heap.size + 1 + 1, 4, none⟩ = some (.int .i64 fr) := cell_of_row _ _ 4 _ _ _ HJ11.out.c
                have c5 : w11.cell? ⟨wr.heap.size + 1 + 1, 5, none⟩ = some (.int .i64 (-1)) := cell_of_row _ _ 5 _ _ _ HJ11.out.c
                have c6 : w11.cell? ⟨wr.heap.size + 1 + 1, 6, none⟩ = some (.int .i64 0) := cell_of_row _ _ 6 _ _ _ HJ11.out.c
                have c7 : w11.cell? ⟨wr.heap.size + 1 + 1, 7, none⟩ = some (.int .i64 0) := cell_of_row _ _ 7 _ _ _ HJ11.out.c
                have z3 : w11.frozen? ⟨wr.heap.size + 1 + 1, 3, none⟩ = false := frozen_of_row _ _ 3 _ _ HJ11.out.c
                have z5 : w11.frozen? ⟨wr.heap.size + 1 + 1, 5, none⟩ = false := frozen_of_row _ _ 5 _ _ HJ11.out.c
                have z6 : w11.frozen? ⟨wr.heap.size + 1 + 1, 6, none⟩ = false := frozen_of_row _ _ 6 _ _ HJ11.out.c
                have z7 : w11.frozen? ⟨wr.heap.size + 1 + 1, 7, none⟩ = false := frozen_of_row _ _ 7 _ _ HJ11.out.c
                have g3 : w11.cell? ⟨wr.heap.size, 3, none⟩ = some (.int .i64 dv) := cell_of_row _ _ 3 _ _ _ HJ11.out.d
                have g5 : w11.cell? ⟨wr.heap.size, 5, none⟩ = some (.bool true) := cell_of_row _ _ 5 _ _ _ HJ11.out.d
                obtain ⟨lp, lc, rfl, -⟩ := own_shape HJ11.out.own
                go_wp2_with ((with_reducible show wpList _ _ _ (⟨some 122, _, _, _, _, _⟩ :: _) _ _); refine wpList_app ECall rfl (.tmp 119) (.tmp 121) rfl (w.heap.size + 2) _ s.l.length (s.l.flatMap Cl.cells) rfl (HJ11.out.own.alloc _) _ 1 1 (Cl.cells ⟨dw % 6, 1, nameOf (dy % 4), dv, fr, (-1), 0, 0⟩) rfl rfl (fun e => by cases e) (row_newAt _ _ _ _ rfl) (cl_ones _) (by have := HLN.out; unfold maxLen; omega) (by have := HLN.out; omega) (by have h1 := HJ11.out.hb; have h2 := HJ11.out.size; simp; omega) ?_; clear c0 c1 c2 c3 c4 c5 c6 c7 g3 g5 z3 z5 z6 z7; intro v' w12 ho12 hg12 _; have HO12 := hid ho12; have HG12 := hid hg12; clear ho12 hg12)
                have HPN := hid (HP5.out.put2 hkl HDA.out HFE.out hf0 hf1 HFR.out HTE.out HHE.out (c := ⟨dw % 6, 1, nameOf (dy % 4), dv, fr, (-1), 0, 0⟩) (by simp [hkd]) HO12.out (mh' := mh) (by simp [hkd]) (mf' := (aset (aset mf (dw % 6) te) (dw % 6) (-1))) (by simp) (HJ11.out.fin HG12.out))
                exact ⟨⟨k + 1, _, _, _, by have := HMX.out; omega, by go_num, HPN.out⟩, by simp [intOf]; omega⟩
              | false =>
                have c0 : w6.cell? ⟨wr.heap.size + 1 + 1, 0, none⟩ = some (.int .i64 (dw % 6)) := cell_of_row _ _ 0 _ _ _ HJ6.out.c
                have c1 : w6.cell? ⟨wr.heap.size + 1 + 1, 1, none⟩ = some (.int .i64 1) := cell_of_row _ _ 1 _ _ _ HJ6.out.c
                have c2 : w6.cell? ⟨wr.heap.size + 1 + 1, 2, none⟩ = some (.string (nameOf (dy % 4))) := cell_of_row _ _ 2 _ _ _ HJ6.out.c
                have c3 : w6.cell? ⟨wr.heap.size + 1 + 1, 3, none⟩ = some (.int .i64 0) := cell_of_row _ _ 3 _ _ _ HJ6.out.c
                have c4 : w6.cell? ⟨wr.heap.size + 1 + 1, 4, none⟩ = some (.int .i64 fr) := cell_of_row _ _ 4 _ _ _ HJ6.out.c
                have c5 : w6.cell? ⟨wr.heap.size + 1 + 1, 5, none⟩ = some (.int .i64 te) := cell_of_row _ _ 5 _ _ _ HJ6.out.c
                have c6 : w6.cell? ⟨wr.heap.size + 1 + 1, 6, none⟩ = some (.int .i64 0) := cell_of_row _ _ 6 _ _ _ HJ6.out.c
                have c7 : w6.cell? ⟨wr.heap.size + 1 + 1, 7, none⟩ = some (.int .i64 0) := cell_of_row _ _ 7 _ _ _ HJ6.out.c
                have z3 : w6.frozen? ⟨wr.heap.size + 1 + 1, 3, none⟩ = false := frozen_of_row _ _ 3 _ _ HJ6.out.c
                have z5 : w6.frozen? ⟨wr.heap.size + 1 + 1, 5, none⟩ = false := frozen_of_row _ _ 5 _ _ HJ6.out.c
                have z6 : w6.frozen? ⟨wr.heap.size + 1 + 1, 6, none⟩ = false := frozen_of_row _ _ 6 _ _ HJ6.out.c
                have z7 : w6.frozen? ⟨wr.heap.size + 1 + 1, 7, none⟩ = false := frozen_of_row _ _ 7 _ _ HJ6.out.c
                have g3 : w6.cell? ⟨wr.heap.size, 3, none⟩ = some (.int .i64 dv) := cell_of_row _ _ 3 _ _ _ HJ6.out.d
                have g5 : w6.cell? ⟨wr.heap.size, 5, none⟩ = some (.bool false) := cell_of_row _ _ 5 _ _ _ HJ6.out.d
                go_upto_region 21 with ((with_reducible show wpList _ _ _ (⟨some 78, _, _, _, _, _⟩ :: _) _ _); refine wpList_have rfl (.tmp 76) (.tmp 77) rfl _ rfl HJ6.out.imh (dy % 4) rfl _ HH.out ?_)
                have HJ8 := hid ((HJ6.out.setV dv).setE 5)
                clear c0 c1 c2 c3 c4 c5 c6 c7 g3 g5 z3 z5 z6 z7
                obtain ⟨w8, hnm⟩ : ∃ x, x = ((w6.setCell ⟨wr.heap.size + 1 + 1, 3, none⟩ (.int .i64 dv)).setCell ⟨wr.heap.size + 1 + 1, 7, none⟩ (.int .i64 5)) := ⟨_, rfl⟩
                rw [← hnm] at HJ8 ⊢
                clear hnm
                have c0 : w8.cell? ⟨wr.heap.size + 1 + 1, 0, none⟩ = some (.int .i64 (dw % 6)) := cell_of_row _ _ 0 _ _ _ HJ8.out.c
                have c1 : w8.cell? ⟨wr.heap.size + 1 + 1, 1, none⟩ = some (.int .i64 1) := cell_of_row _ _ 1 _ _ _ HJ8.out.c
                have c2 : w8.cell? ⟨wr.heap.size + 1 + 1, 2, none⟩ = some (.string (nameOf (dy % 4))) := cell_of_row _ _ 2 _ _ _ HJ8.out.c
                have c3 : w8.cell? ⟨wr.heap.size + 1 + 1, 3, none⟩ = some (.int .i64 dv) := cell_of_row _ _ 3 _ _ _ HJ8.out.c
                have c4 : w8.cell? ⟨wr.heap.size + 1 + 1, 4, none⟩ = some (.int .i64 fr) := cell_of_row _ _ 4 _ _ _ HJ8.out.c
                have c5 : w8.cell? ⟨wr.heap.size + 1 + 1, 5, none⟩ = some (.int .i64 te) := cell_of_row _ _ 5 _ _ _ HJ8.out.c
                have c6 : w8.cell? ⟨wr.heap.size + 1 + 1, 6, none⟩ = some (.int .i64 0) := cell_of_row _ _ 6 _ _ _ HJ8.out.c
                have c7 : w8.cell? ⟨wr.heap.size + 1 + 1, 7, none⟩ = some (.int .i64 5) := cell_of_row _ _ 7 _ _ _ HJ8.out.c
                have z3 : w8.frozen? ⟨wr.heap.size + 1 + 1, 3, none⟩ = false := frozen_of_row _ _ 3 _ _ HJ8.out.c
                have z5 : w8.frozen? ⟨wr.heap.size + 1 + 1, 5, none⟩ = false := frozen_of_row _ _ 5 _ _ HJ8.out.c
                have z6 : w8.frozen? ⟨wr.heap.size + 1 + 1, 6, none⟩ = false := frozen_of_row _ _ 6 _ _ HJ8.out.c
                have z7 : w8.frozen? ⟨wr.heap.size + 1 + 1, 7, none⟩ = false := frozen_of_row _ _ 7 _ _ HJ8.out.c
                have g3 : w8.cell? ⟨wr.heap.size, 3, none⟩ = some (.int .i64 dv) := cell_of_row _ _ 3 _ _ _ HJ8.out.d
                have g5 : w8.cell? ⟨wr.heap.size, 5, none⟩ = some (.bool false) := cell_of_row _ _ 5 _ _ _ HJ8.out.d
                go_upto_region 22 with ((with_reducible show wpList _ _ _ (⟨none, Op.mapUpdate 56 _ _ _, _, _, _, _⟩ :: _) _ _); refine wpList_mapset K3 Try.underlying56 rfl (.tmp 108) (.tmp 109) (.tmp 111) (.inl rfl) (w.heap.size + 1) mf rfl HJ8.out.imf (dw % 6) rfl te rfl ?_; clear c0 c1 c2 c3 c4 c5 c6 c7 g3 g5 z3 z5 z6 z7; intro w9 hm9 hg9; have HJ9 := hid (HJ8.out.setf hm9 hg9); clear hm9 hg9)
                have c0 : w9.cell? ⟨wr.heap.size + 1 + 1, 0, none⟩ = some (.int .i64 (dw % 6)) := cell_of_row _ _ 0 _ _ _ HJ9.out.c
                have c1 : w9.cell? ⟨wr.heap.size + 1 + 1, 1, none⟩ = some (.int .i64 1) := cell_of_row _ _ 1 _ _ _ HJ9.out.c
                have c2 : w9.cell? ⟨wr.heap.size + 1 + 1, 2, none⟩ = some (.string (nameOf (dy % 4))) := cell_of_row _ _ 2 _ _ _ HJ9.out.c
                have c3 : w9.cell? ⟨wr.heap.size + 1 + 1, 3, none⟩ = some (.int .i64 dv) := cell_of_row _ _ 3 _ _ _ HJ9.out.c
                have c4 : w9.cell? ⟨wr.heap.size + 1 + 1, 4, none⟩ = some (.int .i64 fr) := cell_of_row _ _ 4 _ _ _ HJ9.out.c
                have c5 : w9.cell? ⟨wr.heap.size + 1 + 1, 5, none⟩ = some (.int .i64 te) := cell_of_row _ _ 5 _ _ _ HJ9.out.c
                have c6 : w9.cell? ⟨wr.heap.size + 1 + 1, 6, none⟩ = some (.int .i64 0) := cell_of_row _ _ 6 _ _ _ HJ9.out.c
                have c7 : w9.cell? ⟨wr.heap.size + 1 + 1, 7, none⟩ = some (.int .i64 5) := cell_of_row _ _ 7 _ _ _ HJ9.out.c
                have z3 : w9.frozen? ⟨wr.heap.size + 1 + 1, 3, none⟩ = false := frozen_of_row _ _ 3 _ _ HJ9.out.c
                have z5 : w9.frozen? ⟨wr.heap.size + 1 + 1, 5, none⟩ = false := frozen_of_row _ _ 5 _ _ HJ9.out.c
                have z6 : w9.frozen? ⟨wr.heap.size + 1 + 1, 6, none⟩ = false := frozen_of_row _ _ 6 _ _ HJ9.out.c
                have z7 : w9.frozen? ⟨wr.heap.size + 1 + 1, 7, none⟩ = false := frozen_of_row _ _ 7 _ _ HJ9.out.c
                have g3 : w9.cell? ⟨wr.heap.size, 3, none⟩ = some (.int .i64 dv) := cell_of_row _ _ 3 _ _ _ HJ9.out.d
                have g5 : w9.cell? ⟨wr.heap.size, 5, none⟩ = some (.bool false) := cell_of_row _ _ 5 _ _ _ HJ9.out.d
                obtain ⟨lp, lc, rfl, -⟩ := own_shape HJ9.out.own
                go_wp2_with ((with_reducible show wpList _ _ _ (⟨some 122, _, _, _, _, _⟩ :: _) _ _); refine wpList_app ECall rfl (.tmp 119) (.tmp 121) rfl (w.heap.size + 2) _ s.l.length (s.l.flatMap Cl.cells) rfl (HJ9.out.own.alloc _) _ 1 1 (Cl.cells ⟨dw % 6, 1, nameOf (dy % 4), dv, fr, te, 0, 5⟩) rfl rfl (fun e => by cases e) (row_newAt _ _ _ _ rfl) (cl_ones _) (by have := HLN.out; unfold maxLen; omega) (by have := HLN.out; omega) (by have h1 := HJ9.out.hb; have h2 := HJ9.out.size; simp; omega) ?_; clear c0 c1 c2 c3 c4 c5 c6 c7 g3 g5 z3 z5 z6 z7; intro v' w12 ho12 hg12 _; have HO12 := hid ho12; have HG12 := hid hg12; clear ho12 hg12)
                have HPN := hid (HP5.out.put2 hkl HDA.out HFE.out hf0 hf1 HFR.out HTE.out HHE.out (c := ⟨dw % 6, 1, nameOf (dy % 4), dv, fr, te, 0, 5⟩) (by simp [hkd]) HO12.out (mh' := mh) (by simp [hkd]) (mf' := (aset mf (dw % 6) te)) (by simp) (HJ9.out.fin HG12.out))
                exact ⟨⟨k + 1, _, _, _, by have := HMX.out; omega, by go_num, HPN.out⟩, by simp [intOf]; omega⟩
            | none =>
              cases dp with
              | true =>
                have c0 : w6.cell? ⟨wr.heap.size + 1 + 1, 0, none⟩ = some (.int .i64 (dw % 6)) := cell_of_row _ _ 0 _ _ _ HJ6.out.c
                have c1 : w6.cell? ⟨wr.heap.size + 1 + 1, 1, none⟩ = some (.int .i64 1) := cell_of_row _ _ 1 _ _ _ HJ6.out.c
                have c2 : w6.cell? ⟨wr.heap.size + 1 + 1, 2, none⟩ = some (.string (nameOf (dy % 4))) := cell_of_row _ _ 2 _ _ _ HJ6.out.c
                have c3 : w6.cell? ⟨wr.heap.size + 1 + 1, 3, none⟩ = some (.int .i64 0) := cell_of_row _ _ 3 _ _ _ HJ6.out.c
                have c4 : w6.cell? ⟨wr.heap.size + 1 + 1, 4, none⟩ = some (.int .i64 fr) := cell_of_row _ _ 4 _ _ _ HJ6.out.c
                have c5 : w6.cell? ⟨wr.heap.size + 1 + 1, 5, none⟩ = some (.int .i64 te) := cell_of_row _ _ 5 _ _ _ HJ6.out.c
                have c6 : w6.cell? ⟨wr.heap.size + 1 + 1, 6, none⟩ = some (.int .i64 0) := cell_of_row _ _ 6 _ _ _ HJ6.out.c
                have c7 : w6.cell? ⟨wr.heap.size + 1 + 1, 7, none⟩ = some (.int .i64 0) := cell_of_row _ _ 7 _ _ _ HJ6.out.c
                have z3 : w6.frozen? ⟨wr.heap.size + 1 + 1, 3, none⟩ = false := frozen_of_row _ _ 3 _ _ HJ6.out.c
                have z5 : w6.frozen? ⟨wr.heap.size + 1 + 1, 5, none⟩ = false := frozen_of_row _ _ 5 _ _ HJ6.out.c
                have z6 : w6.frozen? ⟨wr.heap.size + 1 + 1, 6, none⟩ = false := frozen_of_row _ _ 6 _ _ HJ6.out.c
                have z7 : w6.frozen? ⟨wr.heap.size + 1 + 1, 7, none⟩ = false := frozen_of_row _ _ 7 _ _ HJ6.out.c
                have g3 : w6.cell? ⟨wr.heap.size, 3, none⟩ = some (.int .i64 dv) := cell_of_row _ _ 3 _ _ _ HJ6.out.d
                have g5 : w6.cell? ⟨wr.heap.size, 5, none⟩ = some (.bool true) := cell_of_row _ _ 5 _ _ _ HJ6.out.d
                go_upto_region 18 with ((with_reducible show wpList _ _ _ (⟨some 78, _, _, _, _, _⟩ :: _) _ _); refine wpList_have rfl (.tmp 76) (.tmp 77) rfl _ rfl HJ6.out.imh (dy % 4) rfl _ HH.out ?_)
                have HJ7 := hid (HJ6.out.setV dv)
                clear c0 c1 c2 c3 c4 c5 c6 c7 g3 g5 z3 z5 z6 z7
                obtain ⟨w7, hnm⟩ : ∃ x, x = (w6.setCell ⟨wr.heap.size + 1 + 1, 3, none⟩ (.int .i64 dv)) := ⟨_, rfl⟩
                rw [← hnm] at HJ7 ⊢
                clear hnm
                have c0 : w7.cell? ⟨wr.heap.size + 1 + 1, 0, none⟩ = some (.int .i64 (dw % 6)) := cell_of_row _ _ 0 _ _ _ HJ7.out.c
                have c1 : w7.cell? ⟨wr.heap.size + 1 + 1, 1, none⟩ = some (.int .i64 1) := cell_of_row _ _ 1 _ _ _ HJ7.out.c
                have c2 : w7.cell? ⟨wr.heap.size + 1 + 1, 2, none⟩ = some (.string (nameOf (dy % 4))) := cell_of_row _ _ 2 _ _ _ HJ7.out.c
                have c3 : w7.cell? ⟨wr.heap.size + 1 + 1, 3, none⟩ = some (.int .i64 dv) := cell_of_row _ _ 3 _ _ _ HJ7.out.c
                have c4 : w7.cell? ⟨wr.heap.size + 1 + 1, 4, none⟩ = some (.int .i64 fr) := cell_of_row _ _ 4 _ _ _ HJ7.out.c
                have c5 : w7.cell? ⟨wr.heap.size + 1 + 1, 5, none⟩ = some (.int .i64 te) := cell_of_row _ _ 5 _ _ _ HJ7.out.c
                have c6 : w7.cell? ⟨wr.heap.size + 1 + 1, 6, none⟩ = some (.int .i64 0) := cell_of_row _ _ 6 _ _ _ HJ7.out.c
                have c7 : w7.cell? ⟨wr.heap.size + 1 + 1, 7, none⟩ = some (.int .i64 0) := cell_of_row _ _ 7 _ _ _ HJ7.out.c
                have z3 : w7.frozen? ⟨wr.heap.size + 1 + 1, 3, none⟩ = false := frozen_of_row _ _ 3 _ _ HJ7.out.c
                have z5 : w7.frozen? ⟨wr.heap.size + 1 + 1, 5, none⟩ = false := frozen_of_row _ _ 5 _ _ HJ7.out.c
                have z6 : w7.frozen? ⟨wr.heap.size + 1 + 1, 6, none⟩ = false := frozen_of_row _ _ 6 _ _ HJ7.out.c
                have z7 : w7.frozen? ⟨wr.heap.size + 1 + 1, 7, none⟩ = false := frozen_of_row _ _ 7 _ _ HJ7.out.c
                have g3 : w7.cell? ⟨wr.heap.size, 3, none⟩ = some (.int .i64 dv) := cell_of_row _ _ 3 _ _ _ HJ7.out.d
                have g5 : w7.cell? ⟨wr.heap.size, 5, none⟩ = some (.bool true) := cell_of_row _ _ 5 _ _ _ HJ7.out.d
                go_upto_region 21 with ((with_reducible show wpList _ _ _ (⟨none, Op.mapUpdate 55 _ _ _, _, _, _, _⟩ :: _) _ _); refine wpList_mapset KU8 Try.underlying55 rfl (.tmp 100) (.tmp 101) (.tmp 103) (.inl rfl) w.heap.size mh rfl HJ7.out.imh (dy % 4) rfl dv rfl ?_; clear c0 c1 c2 c3 c4 c5 c6 c7 g3 g5 z3 z5 z6 z7; intro w8 hm9 hg9; have HJ8 := hid (HJ7.out.seth hm9 hg9); clear hm9 hg9)
                have c0 : w8.cell? ⟨wr.heap.size + 1 + 1, 0, none⟩ = some (.int .i64 (dw % 6)) := cell_of_row _ _ 0 _ _ _ HJ8.out.c
                have c1 : w8.cell? ⟨wr.heap.size + 1 + 1, 1, none⟩ = some (.int .i64 1) := cell_of_row _ _ 1 _ _ _ HJ8.out.c
                have c2 : w8.cell? ⟨wr.heap.size + 1 + 1, 2, none⟩ = some (.string (nameOf (dy % 4))) := cell_of_row _ _ 2 _ _ _ HJ8.out.c
                have c3 : w8.cell? ⟨wr.heap.size + 1 + 1, 3, none⟩ = some (.int .i64 dv) := cell_of_row _ _ 3 _ _ _ HJ8.out.c
                have c4 : w8.cell? ⟨wr.heap.size + 1 + 1, 4, none⟩ = some (.int .i64 fr) := cell_of_row _ _ 4 _ _ _ HJ8.out.c
                have c5 : w8.cell? ⟨wr.heap.size + 1 + 1, 5, none⟩ = some (.int .i64 te) := cell_of_row _ _ 5 _ _ _ HJ8.out.c
                have c6 : w8.cell? ⟨wr.heap.size + 1 + 1, 6, none⟩ = some (.int .i64 0) := cell_of_row _ _ 6 _ _ _ HJ8.out.c
                have c7 : w8.cell? ⟨wr.heap.size + 1 + 1, 7, none⟩ = some (.int .i64 0) := cell_of_row _ _ 7 _ _ _ HJ8.out.c
                have z3 : w8.frozen? ⟨wr.heap.size + 1 + 1, 3, none⟩ = false := frozen_of_row _ _ 3 _ _ HJ8.out.c
                have z5 : w8.frozen? ⟨wr.heap.size + 1 + 1, 5, none⟩ = false := frozen_of_row _ _ 5 _ _ HJ8.out.c
                have z6 : w8.frozen? ⟨wr.heap.size + 1 + 1, 6, none⟩ = false := frozen_of_row _ _ 6 _ _ HJ8.out.c
                have z7 : w8.frozen? ⟨wr.heap.size + 1 + 1, 7, none⟩ = false := frozen_of_row _ _ 7 _ _ HJ8.out.c
                have g3 : w8.cell? ⟨wr.heap.size, 3, none⟩ = some (.int .i64 dv) := cell_of_row _ _ 3 _ _ _ HJ8.out.d
                have g5 : w8.cell? ⟨wr.heap.size, 5, none⟩ = some (.bool true) := cell_of_row _ _ 5 _ _ _ HJ8.out.d
                go_upto_region 22 with ((with_reducible show wpList _ _ _ (⟨none, Op.mapUpdate 56 _ _ _, _, _, _, _⟩ :: _) _ _); refine wpList_mapset K3 Try.underlying56 rfl (.tmp 108) (.tmp 109) (.tmp 111) (.inl rfl) (w.heap.size + 1) mf rfl HJ8.out.imf (dw % 6) rfl te rfl ?_; clear c0 c1 c2 c3 c4 c5 c6 c7 g3 g5 z3 z5 z6 z7; intro w9 hm9 hg9; have HJ9 := hid (HJ8.out.setf hm9 hg9); clear hm9 hg9)
                have c0 : w9.cell? ⟨wr.heap.size + 1 + 1, 0, none⟩ = some (.int .i64 (dw % 6)) := cell_of_row _ _ 0 _ _ _ HJ9.out.c
                have c1 : w9.cell? ⟨wr.heap.size + 1 + 1, 1, none⟩ = some (.int .i64 1) := cell_of_row _ _ 1 _ _ _ HJ9.out.c
                have c2 : w9.cell? ⟨wr.heap.size + 1 + 1, 2, none⟩ = some (.string (nameOf (dy % 4))) := cell_of_row _ _ 2 _ _ _ HJ9.out.c
                have c3 : w9.cell? ⟨wr.heap.size + 1 + 1, 3, none⟩ = some (.int .i64 dv) := cell_of_row _ _ 3 _ _ _ HJ9.out.c
                have c4 : w9.cell? ⟨wr.heap.size + 1 + 1, 4, none⟩ = some (.int .i64 fr) := cell_of_row _ _ 4 _ _ _ HJ9.out.c
                have c5 : w9.cell? ⟨wr.heap.size + 1 + 1, 5, none⟩ = some (.int .i64 te) := cell_of_row _ _ 5 _ _ _ HJ9.out.c
                have c6 : w9.cell? ⟨wr.heap.size + 1 + 1, 6, none⟩ = some (.int .i64 0) := cell_of_row _ _ 6 _ _ _ HJ9.out.c
                have c7 : w9.cell? ⟨wr.heap.size + 1 + 1, 7, none⟩ = some (.int .i64 0) := cell_of_row _ _ 7 _ _ _ HJ9.out.c
                have z3 : w9.frozen? ⟨wr.heap.size + 1 + 1, 3, none⟩ = false := frozen_of_row _ _ 3 _ _ HJ9.out.c
                have z5 : w9.frozen? ⟨wr.heap.size + 1 + 1, 5, none⟩ = false := frozen_of_row _ _ 5 _ _ HJ9.out.c
                have z6 : w9.frozen? ⟨wr.heap.size + 1 + 1, 6, none⟩ = false := frozen_of_row _ _ 6 _ _ HJ9.out.c
                have z7 : w9.frozen? ⟨wr.heap.size + 1 + 1, 7, none⟩ = false := frozen_of_row _ _ 7 _ _ HJ9.out.c
                have g3 : w9.cell? ⟨wr.heap.size, 3, none⟩ = some (.int .i64 dv) := cell_of_row _ _ 3 _ _ _ HJ9.out.d
                have g5 : w9.cell? ⟨wr.heap.size, 5, none⟩ = some (.bool true) := cell_of_row _ _ 5 _ _ _ HJ9.out.d
                go_upto_region 24 with (fail)
                have HJ10 := hid (((HJ9.out.setT (-1)).setE 0).setA 0)
                clear c0 c1 c2 c3 c4 c5 c6 c7 g3 g5 z3 z5 z6 z7
                obtain ⟨w10, hnm⟩ : ∃ x, x = (((w9.setCell ⟨wr.heap.size + 1 + 1, 5, none⟩ (.int .i64 (-1))).setCell ⟨wr.heap.size + 1 + 1, 7, none⟩ (.int .i64 0)).setCell ⟨wr.heap.size + 1 + 1, 6, none⟩ (.int .i64 0)) := ⟨_, rfl⟩
                rw [← hnm] at HJ10 ⊢
                clear hnm
                have c0 : w10.cell? ⟨wr.heap.size + 1 + 1, 0, none⟩ = some (.int .i64 (dw % 6)) := cell_of_row _ _ 0 _ _ _ HJ10.out.c
                have c1 : w10.cell? ⟨wr.heap.size + 1 + 1, 1, none⟩ = some (.int .i64 1) := cell_of_row _ _ 1 _ _ _ HJ10.out.c
                have c2 : w10.cell? ⟨wr.heap.size + 1 + 1, 2, none⟩ = some (.string (nameOf (dy % 4))) := cell_of_row _ _ 2 _ _ _ HJ10.out.c
                have c3 : w10.cell? ⟨wr.heap.size + 1 + 1, 3, none⟩ = some (.int .i64 dv) := cell_of_row _ _ 3 _ _ _ HJ10.out.c
                have c4 : w10.cell? ⟨wr.heap.size + 1 + 1, 4, none⟩ = some (.int .i64 fr) := cell_of_row _ _ 4 _ _ _ HJ10.out.c
                have c5 : w10.cell? ⟨wr.heap.size + 1 + 1, 5, none⟩ = some (.int .i64 (-1)) := cell_of_row _ _ 5 _ _ _ HJ10.out.c
                have c6 : w10.cell? ⟨wr.heap.size + 1 + 1, 6, none⟩ = some (.int .i64 0) := cell_of_row _ _ 6 _ _ _ HJ10.out.c
                have c7 : w10.cell? ⟨wr.heap.size + 1 + 1, 7, none⟩ = some (.int .i64 0) := cell_of_row _ _ 7 _ _ _ HJ10.out.c
                have z3 : w10.frozen? ⟨wr.heap.size + 1 + 1, 3, none⟩ = false := frozen_of_row _ _ 3 _ _ HJ10.out.c
                have z5 : w10.frozen? ⟨wr.heap.size + 1 + 1, 5, none⟩ = false := frozen_of_row _ _ 5 _ _ HJ10.out.c
                have z6 : w10.frozen? ⟨wr.heap.size + 1 + 1, 6, none⟩ = false := frozen_of_row _ _ 6 _ _ HJ10.out.c
                have z7 : w10.frozen? ⟨wr.heap.size + 1 + 1, 7, none⟩ = false := frozen_of_row _ _ 7 _ _ HJ10.out.c
                have g3 : w10.cell? ⟨wr.heap.size, 3, none⟩ = some (.int .i64 dv) := cell_of_row _ _ 3 _ _ _ HJ10.out.d
                have g5 : w10.cell? ⟨wr.heap.size, 5, none⟩ = some (.bool true) := cell_of_row _ _ 5 _ _ _ HJ10.out.d
                go_upto_region 25 with ((with_reducible show wpList _ _ _ (⟨none, Op.mapUpdate 56 _ _ _, _, _, _, _⟩ :: _) _ _); refine wpList_mapset K3 Try.underlying56 rfl (.tmp 117) (.tmp 118) (.const (.int .i64 (-1))) (.inl rfl) (w.heap.size + 1) (aset mf (dw % 6) te) rfl HJ10.out.imf (dw % 6) rfl (-1) rfl ?_; clear c0 c1 c2 c3 c4 c5 c6 c7 g3 g5 z3 z5 z6 z7; intro w11 hm9 hg9; have HJ11 := hid (HJ10.out.setf hm9 hg9); clear hm9 hg9)
                have c0 : w11.cell? ⟨wr.heap.size + 1 + 1, 0, none⟩ = some (.int .i64 (dw % 6)) := cell_of_row _ _ 0 _ _ _ HJ11.out.c
                have c1 : w11.cell? ⟨wr.heap.size + 1 + 1, 1, none⟩ = some (.int .i64 1) := cell_of_row _ _ 1 _ _ _ HJ11.out.c
                have c2 : w11.cell? ⟨wr.heap.size + 1 + 1, 2, none⟩ = some (.string (nameOf (dy % 4))) := cell_of_row _ _ 2 _ _ _ HJ11.out.c
                have c3 : w11.cell? ⟨wr.heap.size + 1 + 1, 3, none⟩ = some (.int .i64 dv) := cell_of_row _ _ 3 _ _ _ HJ11.out.c
                have c4 : w11.cell? ⟨wr.heap.size + 1 + 1, 4, none⟩ = some (.int .i64 fr) := cell_of_row _ _ 4 _ _ _ HJ11.out.c
                have c5 : w11.cell? ⟨wr.heap.size + 1 + 1, 5, none⟩ = some (.int .i64 (-1)) := cell_of_row _ _ 5 _ _ _ HJ11.out.c
                have c6 : w11.cell? ⟨wr.heap.size + 1 + 1, 6, none⟩ = some (.int .i64 0) := cell_of_row _ _ 6 _ _ _ HJ11.out.c
                have c7 : w11.cell? ⟨wr.heap.size + 1 + 1, 7, none⟩ = some (.int .i64 0) := cell_of_row _ _ 7 _ _ _ HJ11.out.c
                have z3 : w11.frozen? ⟨wr.heap.size + 1 + 1, 3, none⟩ = false := frozen_of_row _ _ 3 _ _ HJ11.out.c
                have z5 : w11.frozen? ⟨wr.heap.size + 1 + 1, 5, none⟩ = false := frozen_of_row _ _ 5 _ _ HJ11.out.c
                have z6 : w11.frozen? ⟨wr.heap.size + 1 + 1, 6, none⟩ = false := frozen_of_row _ _ 6 _ _ HJ11.out.c
                have z7 : w11.frozen? ⟨wr.heap.size + 1 + 1, 7, none⟩ = false := frozen_of_row _ _ 7 _ _ HJ11.out.c
                have g3 : w11.cell? ⟨wr.heap.size, 3, none⟩ = some (.int .i64 dv) := cell_of_row _ _ 3 _ _ _ HJ11.out.d
                have g5 : w11.cell? ⟨wr.heap.size, 5, none⟩ = some (.bool true) := cell_of_row _ _ 5 _ _ _ HJ11.out.d
                obtain ⟨lp, lc, rfl, -⟩ := own_shape HJ11.out.own
                go_wp2_with ((with_reducible show wpList _ _ _ (⟨some 122, _, _, _, _, _⟩ :: _) _ _); refine wpList_app ECall rfl (.tmp 119) (.tmp 121) rfl (w.heap.size + 2) _ s.l.length (s.l.flatMap Cl.cells) rfl (HJ11.out.own.alloc _) _ 1 1 (Cl.cells ⟨dw % 6, 1, nameOf (dy % 4), dv, fr, (-1), 0, 0⟩) rfl rfl (fun e => by cases e) (row_newAt _ _ _ _ rfl) (cl_ones _) (by have := HLN.out; unfold maxLen; omega) (by have := HLN.out; omega) (by have h1 := HJ11.out.hb; have h2 := HJ11.out.size; simp; omega) ?_; clear c0 c1 c2 c3 c4 c5 c6 c7 g3 g5 z3 z5 z6 z7; intro v' w12 ho12 hg12 _; have HO12 := hid ho12; have HG12 := hid hg12; clear ho12 hg12)
                have HPN := hid (HP5.out.put2 hkl HDA.out HFE.out hf0 hf1 HFR.out HTE.out HHE.out (c := ⟨dw % 6, 1, nameOf (dy % 4), dv, fr, (-1), 0, 0⟩) (by simp [hkd]) HO12.out (mh' := (aset mh (dy % 4) dv)) (by simp [hkd]) (mf' := (aset (aset mf (dw % 6) te) (dw % 6) (-1))) (by simp) (HJ11.out.fin HG12.out))
                exact ⟨⟨k + 1, _, _, _, by have := HMX.out; omega, by go_num, HPN.out⟩, by simp [intOf]; omega⟩
              | false =>
                have c0 : w6.cell? ⟨wr.heap.size + 1 + 1, 0, none⟩ = some (.int .i64 (dw % 6)) := cell_of_row _ _ 0 _ _ _ HJ6.out.c
                have c1 : w6.cell? ⟨wr.heap.size + 1 + 1, 1, none⟩ = some (.int .i64 1) := cell_of_row _ _ 1 _ _ _ HJ6.out.c
                have c2 : w6.cell? ⟨wr.heap.size + 1 + 1, 2, none⟩ = some (.string (nameOf (dy % 4))) := cell_of_row _ _ 2 _ _ _ HJ6.out.c
                have c3 : w6.cell? ⟨wr.heap.size + 1 + 1, 3, none⟩ = some (.int .i64 0) := cell_of_row _ _ 3 _ _ _ HJ6.out.c
                have c4 : w6.cell? ⟨wr.heap.size + 1 + 1, 4, none⟩ = some (.int .i64 fr) := cell_of_row _ _ 4 _ _ _ HJ6.out.c
                have c5 : w6.cell? ⟨wr.heap.size + 1 + 1, 5, none⟩ = some (.int .i64 te) := cell_of_row _ _ 5 _ _ _ HJ6.out.c
                have c6 : w6.cell? ⟨wr.heap.size + 1 + 1, 6, none⟩ = some (.int .i64 0) := cell_of_row _ _ 6 _ _ _ HJ6.out.c
                have c7 : w6.cell? ⟨wr.heap.size + 1 + 1, 7, none⟩ = some (.int .i64 0) := cell_of_row _ _ 7 _ _ _ HJ6.out.c
                have z3 : w6.frozen? ⟨wr.heap.size + 1 + 1, 3, none⟩ = false := frozen_of_row _ _ 3 _ _ HJ6.out.c
                have z5 : w6.frozen? ⟨wr.heap.size + 1 + 1, 5, none⟩ = false := frozen_of_row _ _ 5 _ _ HJ6.out.c
                have z6 : w6.frozen? ⟨wr.heap.size + 1 + 1, 6, none⟩ = false := frozen_of_row _ _ 6 _ _ HJ6.out.c
                have z7 : w6.frozen? ⟨wr.heap.size + 1 + 1, 7, none⟩ = false := frozen_of_row _ _ 7 _ _ HJ6.out.c
                have g3 : w6.cell? ⟨wr.heap.size, 3, none⟩ = some (.int .i64 dv) := cell_of_row _ _ 3 _ _ _ HJ6.out.d
                have g5 : w6.cell? ⟨wr.heap.size, 5, none⟩ = some (.bool false) := cell_of_row _ _ 5 _ _ _ HJ6.out.d
                go_upto_region 18 with ((with_reducible show wpList _ _ _ (⟨some 78, _, _, _, _, _⟩ :: _) _ _); refine wpList_have rfl (.tmp 76) (.tmp 77) rfl _ rfl HJ6.out.imh (dy % 4) rfl _ HH.out ?_)
                have HJ7 := hid (HJ6.out.setV dv)
                clear c0 c1 c2 c3 c4 c5 c6 c7 g3 g5 z3 z5 z6 z7
                obtain ⟨w7, hnm⟩ : ∃ x, x = (w6.setCell ⟨wr.heap.size + 1 + 1, 3, none⟩ (.int .i64 dv)) := ⟨_, rfl⟩
                rw [← hnm] at HJ7 ⊢
                clear hnm
                have c0 : w7.cell? ⟨wr.heap.size + 1 + 1, 0, none⟩ = some (.int .i64 (dw % 6)) := cell_of_row _ _ 0 _ _ _ HJ7.out.c
                have c1 : w7.cell? ⟨wr.heap.size + 1 + 1, 1, none⟩ = some (.int .i64 1) := cell_of_row _ _ 1 _ _ _ HJ7.out.c
                have c2 : w7.cell? ⟨wr.heap.size + 1 + 1, 2, none⟩ = some (.string (nameOf (dy % 4))) := cell_of_row _ _ 2 _ _ _ HJ7.out.c
                have c3 : w7.cell? ⟨wr.heap.size + 1 + 1, 3, none⟩ = some (.int .i64 dv) := cell_of_row _ _ 3 _ _ _ HJ7.out.c
                have c4 : w7.cell? ⟨wr.heap.size + 1 + 1, 4, none⟩ = some (.int .i64 fr) := cell_of_row _ _ 4 _ _ _ HJ7.out.c
                have c5 : w7.cell? ⟨wr.heap.size + 1 + 1, 5, none⟩ = some (.int .i64 te) := cell_of_row _ _ 5 _ _ _ HJ7.out.c
                have c6 : w7.cell? ⟨wr.heap.size + 1 + 1, 6, none⟩ = some (.int .i64 0) := cell_of_row _ _ 6 _ _ _ HJ7.out.c
                have c7 : w7.cell? ⟨wr.heap.size + 1 + 1, 7, none⟩ = some (.int .i64 0) := cell_of_row _ _ 7 _ _ _ HJ7.out.c
                have z3 : w7.frozen? ⟨wr.heap.size + 1 + 1, 3, none⟩ = false := frozen_of_row _ _ 3 _ _ HJ7.out.c
                have z5 : w7.frozen? ⟨wr.heap.size + 1 + 1, 5, none⟩ = false := frozen_of_row _ _ 5 _ _ HJ7.out.c
                have z6 : w7.frozen? ⟨wr.heap.size + 1 + 1, 6, none⟩ = false := frozen_of_row _ _ 6 _ _ HJ7.out.c
                have z7 : w7.frozen? ⟨wr.heap.size + 1 + 1, 7, none⟩ = false := frozen_of_row _ _ 7 _ _ HJ7.out.c
                have g3 : w7.cell? ⟨wr.heap.size, 3, none⟩ = some (.int .i64 dv) := cell_of_row _ _ 3 _ _ _ HJ7.out.d
                have g5 : w7.cell? ⟨wr.heap.size, 5, none⟩ = some (.bool false) := cell_of_row _ _ 5 _ _ _ HJ7.out.d
                go_upto_region 21 with ((with_reducible show wpList _ _ _ (⟨none, Op.mapUpdate 55 _ _ _, _, _, _, _⟩ :: _) _ _); refine wpList_mapset KU8 Try.underlying55 rfl (.tmp 100) (.tmp 101) (.tmp 103) (.inl rfl) w.heap.size mh rfl HJ7.out.imh (dy % 4) rfl dv rfl ?_; clear c0 c1 c2 c3 c4 c5 c6 c7 g3 g5 z3 z5 z6 z7; intro w8 hm9 hg9; have HJ8 := hid (HJ7.out.seth hm9 hg9); clear hm9 hg9)
                have c0 : w8.cell? ⟨wr.heap.size + 1 + 1, 0, none⟩ = some (.int .i64 (dw % 6)) := cell_of_row _ _ 0 _ _ _ HJ8.out.c
                have c1 : w8.cell? ⟨wr.heap.size + 1 + 1, 1, none⟩ = some (.int .i64 1) := cell_of_row _ _ 1 _ _ _ HJ8.out.c
                have c2 : w8.cell? ⟨wr.heap.size + 1 + 1, 2, none⟩ = some (.string (nameOf (dy % 4))) := cell_of_row _ _ 2 _ _ _ HJ8.out.c
                have c3 : w8.cell? ⟨wr.heap.size + 1 + 1, 3, none⟩ = some (.int .i64 dv) := cell_of_row _ _ 3 _ _ _ HJ8.out.c
                have c4 : w8.cell? ⟨wr.heap.size + 1 + 1, 4, none⟩ = some (.int .i64 fr) := cell_of_row _ _ 4 _ _ _ HJ8.out.c
                have c5 : w8.cell? ⟨wr.heap.size + 1 + 1, 5, none⟩ = some (.int .i64 te) := cell_of_row _ _ 5 _ _ _ HJ8.out.c
                have c6 : w8.cell? ⟨wr.heap.size + 1 + 1, 6, none⟩ = some (.int .i64 0) := cell_of_row _ _ 6 _ _ _ HJ8.out.c
                have c7 : w8.cell? ⟨wr.heap.size + 1 + 1, 7, none⟩ = some (.int .i64 0) := cell_of_row _ _ 7 _ _ _ HJ8.out.c
                have z3 : w8.frozen? ⟨wr.heap.size + 1 + 1, 3, none⟩ = false := frozen_of_row _ _ 3 _ _ HJ8.out.c
                have z5 : w8.frozen? ⟨wr.heap.size + 1 + 1, 5, none⟩ = false := frozen_of_row _ _ 5 _ _ HJ8.out.c
                have z6 : w8.frozen? ⟨wr.heap.size + 1 + 1, 6, none⟩ = false := frozen_of_row _ _ 6 _ _ HJ8.out.c
                have z7 : w8.frozen? ⟨wr.heap.size + 1 + 1, 7, none⟩ = false := frozen_of_row _ _ 7 _ _ HJ8.out.c
                have g3 : w8.cell? ⟨wr.heap.size, 3, none⟩ = some (.int .i64 dv) := cell_of_row _ _ 3 _ _ _ HJ8.out.d
                have g5 : w8.cell? ⟨wr.heap.size, 5, none⟩ = some (.bool false) := cell_of_row _ _ 5 _ _ _ HJ8.out.d
                go_upto_region 22 with ((with_reducible show wpList _ _ _ (⟨none, Op.mapUpdate 56 _ _ _, _, _, _, _⟩ :: _) _ _); refine wpList_mapset K3 Try.underlying56 rfl (.tmp 108) (.tmp 109) (.tmp 111) (.inl rfl) (w.heap.size + 1) mf rfl HJ8.out.imf (dw % 6) rfl te rfl ?_; clear c0 c1 c2 c3 c4 c5 c6 c7 g3 g5 z3 z5 z6 z7; intro w9 hm9 hg9; have HJ9 := hid (HJ8.out.setf hm9 hg9); clear hm9 hg9)
                have c0 : w9.cell? ⟨wr.heap.size + 1 + 1, 0, none⟩ = some (.int .i64 (dw % 6)) := cell_of_row _ _ 0 _ _ _ HJ9.out.c
                have c1 : w9.cell? ⟨wr.heap.size + 1 + 1, 1, none⟩ = some (.int .i64 1) := cell_of_row _ _ 1 _ _ _ HJ9.out.c
                have c2 : w9.cell? ⟨wr.heap.size + 1 + 1, 2, none⟩ = some (.string (nameOf (dy % 4))) := cell_of_row _ _ 2 _ _ _ HJ9.out.c
                have c3 : w9.cell? ⟨wr.heap.size + 1 + 1, 3, none⟩ = some (.int .i64 dv) := cell_of_row _ _ 3 _ _ _ HJ9.out.c
                have c4 : w9.cell? ⟨wr.heap.size + 1 + 1, 4, none⟩ = some (.int .i64 fr) := cell_of_row _ _ 4 _ _ _ HJ9.out.c
                have c5 : w9.cell? ⟨wr.heap.size + 1 + 1, 5, none⟩ = some (.int .i64 te) := cell_of_row _ _ 5 _ _ _ HJ9.out.c
                have c6 : w9.cell? ⟨wr.heap.size + 1 + 1, 6, none⟩ = some (.int .i64 0) := cell_of_row _ _ 6 _ _ _ HJ9.out.c
                have c7 : w9.cell? ⟨wr.heap.size + 1 + 1, 7, none⟩ = some (.int .i64 0) := cell_of_row _ _ 7 _ _ _ HJ9.out.c
                have z3 : w9.frozen? ⟨wr.heap.size + 1 + 1, 3, none⟩ = false := frozen_of_row _ _ 3 _ _ HJ9.out.c
                have z5 : w9.frozen? ⟨wr.heap.size + 1 + 1, 5, none⟩ = false := frozen_of_row _ _ 5 _ _ HJ9.out.c
                have z6 : w9.frozen? ⟨wr.heap.size + 1 + 1, 6, none⟩ = false := frozen_of_row _ _ 6 _ _ HJ9.out.c
                have z7 : w9.frozen? ⟨wr.heap.size + 1 + 1, 7, none⟩ = false := frozen_of_row _ _ 7 _ _ HJ9.out.c
                have g3 : w9.cell? ⟨wr.heap.size, 3, none⟩ = some (.int .i64 dv) := cell_of_row _ _ 3 _ _ _ HJ9.out.d
                have g5 : w9.cell? ⟨wr.heap.size, 5, none⟩ = some (.bool false) := cell_of_row _ _ 5 _ _ _ HJ9.out.d
                obtain ⟨lp, lc, rfl, -⟩ := own_shape HJ9.out.own
                go_wp2_with ((with_reducible show wpList _ _ _ (⟨some 122, _, _, _, _, _⟩ :: _) _ _); refine wpList_app ECall rfl (.tmp 119) (.tmp 121) rfl (w.heap.size + 2) _ s.l.length (s.l.flatMap Cl.cells) rfl (HJ9.out.own.alloc _) _ 1 1 (Cl.cells ⟨dw % 6, 1, nameOf (dy % 4), dv, fr, te, 0, 0⟩) rfl rfl (fun e => by cases e) (row_newAt _ _ _ _ rfl) (cl_ones _) (by have := HLN.out; unfold maxLen; omega) (by have := HLN.out; omega) (by have h1 := HJ9.out.hb; have h2 := HJ9.out.size; simp; omega) ?_; clear c0 c1 c2 c3 c4 c5 c6 c7 g3 g5 z3 z5 z6 z7; intro v' w12 ho12 hg12 _; have HO12 := hid ho12; have HG12 := hid hg12; clear ho12 hg12)
                have HPN := hid (HP5.out.put2 hkl HDA.out HFE.out hf0 hf1 HFR.out HTE.out HHE.out (c := ⟨dw % 6, 1, nameOf (dy % 4), dv, fr, te, 0, 0⟩) (by simp [hkd]) HO12.out (mh' := (aset mh (dy % 4) dv)) (by simp [hkd]) (mf' := (aset mf (dw % 6) te)) (by simp) (HJ9.out.fin HG12.out))
                exact ⟨⟨k + 1, _, _, _, by have := HMX.out; omega, by go_num, HPN.out⟩, by simp [intOf]; omega⟩
          · have hkd : dk % 2 = 1 := by omega
            go_upto_region 12 with (first
              | ((with_reducible show wpList _ _ _ (⟨some 39, _, _, _, _, _⟩ :: _) _ _); refine wpList_free (by rfl) (.tmp 37) (.tmp 38) rfl _ rfl HP5.out.imf (dw % 6) rfl f HF.out ?_)
              | ((with_reducible show wpList _ _ _ (⟨some 44, _, _, _, _, _⟩ :: _) _ _); refine wpList_free (by rfl) (.tmp 42) (.tmp 43) rfl _ rfl HP5.out.imf (dw % 6) rfl f HF.out ?_)
              | ((with_reducible show wpList _ _ _ (⟨some 66, _, _, _, _, _⟩ :: _) _ _); refine wpList_free (by rfl) (.tmp 64) (.tmp 65) rfl _ rfl (HP5.out.imf.alloc _) (dw % 6) rfl f HF.out ?_))
            obtain ⟨fr, hfr⟩ : ∃ fr, fr = max (100 * (k : Int) + 300 - 10 - de) f := ⟨_, rfl⟩
            obtain ⟨te, hte⟩ : ∃ te, te = 100 * (k : Int) + 300 + 10 + de := ⟨_, rfl⟩
            have HFR := hid hfr
            have HTE := hid hte
            obtain ⟨w6, hw6⟩ : ∃ w6, w6 = (w5.alloc (.cells #[.int .u8 (97 + dy % 4)] 5)).alloc (.cells #[.int .i64 (dw % 6), .int .i64 2, .string (nameOf (dy % 4)), .int .i64 0, .int .i64 (max (100 * (k : Int) + 300 - 10 - de) f), .int .i64 (100 * (k : Int) + 300 + 10 + de), .int .i64 0, .int .i64 0] 38) := ⟨_, rfl⟩
            rw [← hw6]
            rw [← hfr, ← hte] at hw6
            have HJ6 : Hid (PlJ w wr u3 s.l mh mf ⟨dw, dk, dy, dv, de, dp⟩ ⟨dw % 6, 2, nameOf (dy % 4), 0, fr, te, 0, 0⟩ w6) := by rw [hw6]; exact PlJ.start (d := ⟨dw, dk, dy, dv, de, dp⟩) (c := ⟨dw % 6, 2, nameOf (dy % 4), 0, fr, te, 0, 0⟩) HP.out HB5.out hs5 HD.out _
            clear hw6 hfr hte hcv g0 g1 g2 g3 g4 g5 hs5
            cases hh with
            | some v =>
              cases dp with
              | true =>
                have c0 : w6.cell? ⟨wr.heap.size + 1 + 1, 0, none⟩ = some (.int .i64 (dw % 6)) := cell_of_row _ _ 0 _ _ _ HJ6.out.c
                have c1 : w6.cell? ⟨wr.heap.size + 1 + 1, 1, none⟩ = some (.int .i64 2) := cell_of_row _ _ 1 _ _ _ HJ6.out.c
                have c2 : w6.cell? ⟨wr.heap.size + 1 + 1, 2, none⟩ = some (.string (nameOf (dy % 4))) := cell_of_row _ _ 2 _ _ _ HJ6.out.c
                have c3 : w6.cell? ⟨wr.heap.size + 1 + 1, 3, none⟩ = some (.int .i64 0) := cell_of_row _ _ 3 _ _ _ HJ6.out.c
                have c4 : w6.cell? ⟨wr.heap.size + 1 + 1, 4, none⟩ = some (.int .i64 fr) := cell_of_row _ _ 4 _ _ _ HJ6.out.c
                have c5 : w6.cell? ⟨wr.heap.size + 1 + 1, 5, none⟩ = some (.int .i64 te) := cell_of_row _ _ 5 _ _ _ HJ6.out.c
                have c6 : w6.cell? ⟨wr.heap.size + 1 + 1, 6, none⟩ = some (.int .i64 0) := cell_of_row _ _ 6 _ _ _ HJ6.out.c
                have c7 : w6.cell? ⟨wr.heap.size + 1 + 1, 7, none⟩ = some (.int .i64 0) := cell_of_row _ _ 7 _ _ _ HJ6.out.c
                have z3 : w6.frozen? ⟨wr.heap.size + 1 + 1, 3, none⟩ = false := frozen_of_row _ _ 3 _ _ HJ6.out.c
                have z5 : w6.frozen? ⟨wr.heap.size + 1 + 1, 5, none⟩ = false := frozen_of_row _ _ 5 _ _ HJ6.out.c
                have z6 : w6.frozen? ⟨wr.heap.size + 1 + 1, 6, none⟩ = false := frozen_of_row _ _ 6 _ _ HJ6.out.c
                have z7 : w6.frozen? ⟨wr.heap.size + 1 + 1, 7, none⟩ = false := frozen_of_row _ _ 7 _ _ HJ6.out.c
                have g3 : w6.cell? ⟨wr.heap.size, 3, none⟩ = some (.int .i64 dv) := cell_of_row _ _ 3 _ _ _ HJ6.out.d
                have g5 : w6.cell? ⟨wr.heap.size, 5, none⟩ = some (.bool true) := cell_of_row _ _ 5 _ _ _ HJ6.out.d
                go_upto_region 21 with ((with_reducible show wpList _ _ _ (⟨some 78, _, _, _, _, _⟩ :: _) _ _); refine wpList_have rfl (.tmp 76) (.tmp 77) rfl _ rfl HJ6.out.imh (dy % 4) rfl _ HH.out ?_)
                have HJ8 := hid (HJ6.out.setA v)
                clear c0 c1 c2 c3 c4 c5 c6 c7 g3 g5 z3 z5 z6 z7
                obtain ⟨w8, hnm⟩ : ∃ x, x = (w6.setCell ⟨wr.heap.size + 1 + 1, 6, none⟩ (.int .i64 v)) := ⟨_, rfl⟩
                rw [← hnm] at HJ8 ⊢
                clear hnm
                have c0 : w8.cell? ⟨wr.heap.size + 1 + 1, 0, none⟩ = some (.int .i64 (dw % 6)) := cell_of_row _ _ 0 _ _ _ HJ8.out.c
                have c1 : w8.cell? ⟨wr.heap.size + 1 + 1, 1, none⟩ = some (.int .i64 2) := cell_of_row _ _ 1 _ _ _ HJ8.out.c
                have c2 : w8.cell? ⟨wr.heap.size + 1 + 1, 2, none⟩ = some (.string (nameOf (dy % 4))) := cell_of_row _ _ 2 _ _ _ HJ8.out.c
                have c3 : w8.cell? ⟨wr.heap.size + 1 + 1, 3, none⟩ = some (.int .i64 0) := cell_of_row _ _ 3 _ _ _ HJ8.out.c
                have c4 : w8.cell? ⟨wr.heap.size + 1 + 1, 4, none⟩ = some (.int .i64 fr) := cell_of_row _ _ 4 _ _ _ HJ8.out.c
                have c5 : w8.cell? ⟨wr.heap.size + 1 + 1, 5, none⟩ = some (.int .i64 te) := cell_of_row _ _ 5 _ _ _ HJ8.out.c
                have c6 : w8.cell? ⟨wr.heap.size + 1 + 1, 6, none⟩ = some (.int .i64 v) := cell_of_row _ _ 6 _ _ _ HJ8.out.c
                have c7 : w8.cell? ⟨wr.heap.size + 1 + 1, 7, none⟩ = some (.int .i64 0) := cell_of_row _ _ 7 _ _ _ HJ8.out.c
                have z3 : w8.frozen? ⟨wr.heap.size + 1 + 1, 3, none⟩ = false := frozen_of_row _ _ 3 _ _ HJ8.out.c
                have z5 : w8.frozen? ⟨wr.heap.size + 1 + 1, 5, none⟩ = false := frozen_of_row _ _ 5 _ _ HJ8.out.c
                have z6 : w8.frozen? ⟨wr.heap.size + 1 + 1, 6, none⟩ = false := frozen_of_row _ _ 6 _ _ HJ8.out.c
                have z7 : w8.frozen? ⟨wr.heap.size + 1 + 1, 7, none⟩ = false := frozen_of_row _ _ 7 _ _ HJ8.out.c
                have g3 : w8.cell? ⟨wr.heap.size, 3, none⟩ = some (.int .i64 dv) := cell_of_row _ _ 3 _ _ _ HJ8.out.d
                have g5 : w8.cell? ⟨wr.heap.size, 5, none⟩ = some (.bool true) := cell_of_row _ _ 5 _ _ _ HJ8.out.d
                go_upto_region 22 with ((with_reducible show wpList _ _ _ (⟨none, Op.mapUpdate 56 _ _ _, _, _, _, _⟩ :: _) _ _); refine wpList_mapset K3 Try.underlying56 rfl (.tmp 108) (.tmp 109) (.tmp 111) (.inl rfl) (w.heap.size + 1) mf rfl HJ8.out.imf (dw % 6) rfl te rfl ?_; clear c0 c1 c2 c3 c4 c5 c6 c7 g3 g5 z3 z5 z6 z7; intro w9 hm9 hg9; have HJ9 := hid (HJ8.out.setf hm9 hg9); clear hm9 hg9)
                have c0 : w9.cell? ⟨wr.heap.size + 1 + 1, 0, none⟩ = some (.int .i64 (dw % 6)) := cell_of_row _ _ 0 _ _ _ HJ9.out.c
                have c1 : w9.cell? ⟨wr.heap.size + 1 + 1, 1, none⟩ = some (.int .i64 2) := cell_of_row _ _ 1 _ _ _ HJ9.out.c
                have c2 : w9.cell? ⟨wr.heap.size + 1 + 1, 2, none⟩ = some (.string (nameOf (dy % 4))) := cell_of_row _ _ 2 _ _ _ HJ9.out.c
                have c3 : w9.cell? ⟨wr.heap.size + 1 + 1, 3, none⟩ = some (.int .i64 0) := cell_of_row _ _ 3 _ _ _ HJ9.out.c
                have c4 : w9.cell? ⟨wr.heap.size + 1 + 1, 4, none⟩ = some (.int .i64 fr) := cell_of_row _ _ 4 _ _ _ HJ9.out.c
                have c5 : w9.cell? ⟨wr.heap.size + 1 + 1, 5, none⟩ = some (.int .i64 te) := cell_of_row _ _ 5 _ _ _ HJ9.out.c
                have c6 : w9.cell? ⟨wr.heap.size + 1 + 1, 6, none⟩ = some (.int .i64 v) := cell_of_row _ _ 6 _ _ _ HJ9.out.c
                have c7 : w9.cell? ⟨wr.heap.size + 1 + 1, 7, none⟩ = some (.int .i64 0) := cell_of_row _ _ 7 _ _ _ HJ9.out.c
                have z3 : w9.frozen? ⟨wr.heap.size + 1 + 1, 3, none⟩ = false := frozen_of_row _ _ 3 _ _ HJ9.out.c
                have z5 : w9.frozen? ⟨wr.heap.size + 1 + 1, 5, none⟩ = false := frozen_of_row _ _ 5 _ _ HJ9.out.c
                have z6 : w9.frozen? ⟨wr.heap.size + 1 + 1, 6, none⟩ = false := frozen_of_row _ _ 6 _ _ HJ9.out.c
                have z7 : w9.frozen? ⟨wr.heap.size + 1 + 1, 7, none⟩ = false := frozen_of_row _ _ 7 _ _ HJ9.out.c
                have g3 : w9.cell? ⟨wr.heap.size, 3, none⟩ = some (.int .i64 dv) := cell_of_row _ _ 3 _ _ _ HJ9.out.d
                have g5 : w9.cell? ⟨wr.heap.size, 5, none⟩ = some (.bool true) := cell_of_row _ _ 5 _ _ _ HJ9.out.d
                go_upto_region 24 with (fail)
                have HJ10 := hid (((HJ9.out.setT (-1)).setE 0).setA 0)
                clear c0 c1 c2 c3 c4 c5 c6 c7 g3 g5 z3 z5 z6 z7
                obtain ⟨w10, hnm⟩ : ∃ x, x = (((w9.setCell ⟨wr.heap.size + 1 + 1, 5, none⟩ (.int .i64 (-1))).setCell ⟨wr.heap.size + 1 + 1, 7, none⟩ (.int .i64 0)).setCell ⟨wr.heap.size + 1 + 1, 6, none⟩ (.int .i64 0)) := ⟨_, rfl⟩
                rw [← hnm] at HJ10 ⊢
                clear hnm
                have c0 : w10.cell? ⟨wr.heap.size + 1 + 1, 0, none⟩ = some (.int .i64 (dw % 6)) := cell_of_row _ _ 0 _ _ _ HJ10.out.c
                have c1 : w10.cell? ⟨wr.heap.size + 1 + 1, 1, none⟩ = some (.int .i64 2) := cell_of_row _ _ 1 _ _ _ HJ10.out.c
                have c2 : w10.cell? ⟨wr.heap.size + 1 + 1, 2, none⟩ = some (.string (nameOf (dy % 4))) := cell_of_row _ _ 2 _ _ _ HJ10.out.c
                have c3 : w10.cell? ⟨wr.heap.size + 1 + 1, 3, none⟩ = some (.int .i64 0) := cell_of_row _ _ 3 _ _ _ HJ10.out.c
                have c4 : w10.cell? ⟨wr.heap.size + 1 + 1, 4, none⟩ = some (.int .i64 fr) := cell_of_row _ _ 4 _ _ _ HJ10.out.c
                have c5 : w10.cell? ⟨wr.heap.size + 1 + 1, 5, none⟩ = some (.int .i64 (-1)) := cell_of_row _ _ 5 _ _ _ HJ10.out.c
                have c6 : w10.cell? ⟨wr.heap.size + 1 + 1, 6, none⟩ = some (.int .i64 0) := cell_of_row _ _ 6 _ _ _ HJ10.out.c
                have c7 : w10.cell? ⟨wr.heap.size + 1 + 1, 7, none⟩ = some (.int .i64 0) := cell_of_row _ _ 7 _ _ _ HJ10.out.c
                have z3 : w10.frozen? ⟨wr.heap.size + 1 + 1, 3, none⟩ = false := frozen_of_row _ _ 3 _ _ HJ10.out.c
                have z5 : w10.frozen? ⟨wr.heap.size + 1 + 1, 5, none⟩ = false := frozen_of_row _ _ 5 _ _ HJ10.out.c
                have z6 : w10.frozen? ⟨wr.heap.size + 1 + 1, 6, none⟩ = false := frozen_of_row _ _ 6 _ _ HJ10.out.c
                have z7 : w10.frozen? ⟨wr.heap.size + 1 + 1, 7, none⟩ = false := frozen_of_row _ _ 7 _ _ HJ10.out.c
                have g3 : w10.cell? ⟨wr.heap.size, 3, none⟩ = some (.int .i64 dv) := cell_of_row _ _ 3 _ _ _ HJ10.out.d
                have g5 : w10.cell? ⟨wr.heap.size, 5, none⟩ = some (.bool true) := cell_of_row _ _ 5 _ _ _ HJ10.out.d
                go_upto_region 25 with ((with_reducible show wpList _ _ _ (⟨none, Op.mapUpdate 56 _ _ _, _, _, _, _⟩ :: _) _ _); refine wpList_mapset K3 Try.underlying56 rfl (.tmp 117) (.tmp 118) (.const (.int .i64 (-1))) (.inl rfl) (w.heap.size + 1) (aset mf (dw % 6) te) rfl HJ10.out.imf (dw % 6) rfl (-1) rfl ?_; clear c0 c1 c2 c3 c4 c5 c6 c7 g3 g5 z3 z5 z6 z7; intro w11 hm9 hg9; have HJ11 := hid (HJ10.out.setf hm9 hg9); clear hm9 hg9)
                have c0 : w11.cell? ⟨wr.heap.size + 1 + 1, 0, none⟩ = some (.int .i64 (dw % 6)) := cell_of_row _ _ 0 _ _ _ HJ11.out.c
                have c1 : w11.cell? ⟨wr.heap.size + 1 + 1, 1, none⟩ = some (.int .i64 2) := cell_of_row _ _ 1 _ _ _ HJ11.out.c
                have c2 : w11.cell? ⟨wr.heap.size + 1 + 1, 2, none⟩ = some (.string (nameOf (dy % 4))) := cell_of_row _ _ 2 _ _ _ HJ11.out.c
                have c3 : w11.cell? ⟨wr.heap.size + 1 + 1, 3, none⟩ = some (.int .i64 0) := cell_of_row _ _ 3 _ _ _ HJ11.out.c
                have c4 : w11.cell? ⟨wr.heap.size + 1 + 1, 4, none⟩ = some (.int .i64 fr) := cell_of_row _ _ 4 _ _ _ HJ11.out.c
                have c5 : w11.cell? ⟨wr.heap.size + 1 + 1, 5, none⟩ = some (.int .i64 (-1)) := cell_of_row _ _ 5 _ _ _ HJ11.out.c
                have c6 : w11.cell? ⟨wr.heap.size + 1 + 1, 6, none⟩ = some (.int .i64 0) := cell_of_row _ _ 6 _ _ _ HJ11.out.c
                have c7 : w11.cell? ⟨wr.heap.size + 1 + 1, 7, none⟩ = some (.int .i64 0) := cell_of_row _ _ 7 _ _ _ HJ11.out.c
                have z3 : w11.frozen? ⟨wr.heap.size + 1 + 1, 3, none⟩ = false := frozen_of_row _ _ 3 _ _ HJ11.out.c
                have z5 : w11.frozen? ⟨wr.heap.size + 1 + 1, 5, none⟩ = false := frozen_of_row _ _ 5 _ _ HJ11.out.c
                have z6 : w11.frozen? ⟨wr.heap.size + 1 + 1, 6, none⟩ = false := frozen_of_row _ _ 6 _ _ HJ11.out.c
                have z7 : w11.frozen? ⟨wr.heap.size + 1 + 1, 7, none⟩ = false := frozen_of_row _ _ 7 _ _ HJ11.out.c
                have g3 : w11.cell? ⟨wr.heap.size, 3, none⟩ = some (.int .i64 dv) := cell_of_row _ _ 3 _ _ _ HJ11.out.d
                have g5 : w11.cell? ⟨wr.heap.size, 5, none⟩ = some (.bool true) := cell_of_row _ _ 5 _ _ _ HJ11.out.d
                obtain ⟨lp, lc, rfl, -⟩ := own_shape HJ11.out.own
                go_wp2_with ((with_reducible show wpList _ _ _ (⟨some 122, _, _, _, _, _⟩ :: _) _ _); refine wpList_app ECall rfl (.tmp 119) (.tmp 121) rfl (w.heap.size + 2) _ s.l.length (s.l.flatMap Cl.cells) rfl (HJ11.out.own.alloc _) _ 1 1 (Cl.cells ⟨dw % 6, 2, nameOf (dy % 4), 0, fr, (-1), 0, 0⟩) rfl rfl (fun e => by cases e) (row_newAt _ _ _ _ rfl) (cl_ones _) (by have := HLN.out; unfold maxLen; omega) (by have := HLN.out; omega) (by have h1 := HJ11.out.hb; have h2 := HJ11.out.size; simp; omega) ?_; clear c0 c1 c2 c3 c4 c5 c6 c7 g3 g5 z3 z5 z6 z7; intro v' w12 ho12 hg12 _; have HO12 := hid ho12; have HG12 := hid hg12; clear ho12 hg12)
                have HPN := hid (HP5.out.put2 hkl HDA.out HFE.out hf0 hf1 HFR.out HTE.out HHE.out (c := ⟨dw % 6, 2, nameOf (dy % 4), 0, fr, (-1), 0, 0⟩) (by simp [hkd]) HO12.out (mh' := mh) (by simp [hkd]) (mf' := (aset (aset mf (dw % 6) te) (dw % 6) (-1))) (by simp) (HJ11.out.fin HG12.out))
                exact ⟨⟨k + 1, _, _, _, by have := HMX.out; omega, by go_num, HPN.out⟩, by simp [intOf]; omega⟩
              | false =>
                have c0 : w6.cell? ⟨wr.heap.size + 1 + 1, 0, none⟩ = some (.int .i64 (dw % 6)) := cell_of_row _ _ 0 _ _ _ HJ6.out.c
                have c1 : w6.cell? ⟨wr.heap.size + 1 + 1, 1, none⟩ = some (.int .i64 2) := cell_of_row _ _ 1 _ _ _ HJ6.out.c
                have c2 : w6.cell? ⟨wr.heap.size + 1 + 1, 2, none⟩ = some (.string (nameOf (dy % 4))) := cell_of_row _ _ 2 _ _ _ HJ6.out.c
                have c3 : w6.cell? ⟨wr.heap.size + 1 + 1, 3, none⟩ = some (.int .i64 0) := cell_of_row _ _ 3 _ _ _ HJ6.out.c
                have c4 : w6.cell? ⟨wr.heap.size + 1 + 1, 4, none⟩ = some (.int .i64 fr) := cell_of_row _ _ 4 _ _ _ HJ6.out.c
                have c5 : w6.cell? ⟨wr.heap.size + 1 + 1, 5, none⟩ = some (.int .i64 te) := cell_of_row _ _ 5 _ _ _ HJ6.out.c
                have c6 : w6.cell? ⟨wr.heap.size + 1 + 1, 6, none⟩ = some (.int .i64 0) := cell_of_row _ _ 6 _ _ _ HJ6.out.c
                have c7 : w6.cell? ⟨wr.heap.size + 1 + 1, 7, none⟩ = some (.int .i64 0) := cell_of_row _ _ 7 _ _ _ HJ6.out.c
                have z3 : w6.frozen? ⟨wr.heap.size + 1 + 1, 3, none⟩ = false := frozen_of_row _ _ 3 _ _ HJ6.out.c
                have z5 : w6.frozen? ⟨wr.heap.size + 1 + 1, 5, none⟩ = false := frozen_of_row _ _ 5 _ _ HJ6.out.c
                have z6 : w6.frozen? ⟨wr.heap.size + 1 + 1, 6, none⟩ = false := frozen_of_row _ _ 6 _ _ HJ6.out.c
                have z7 : w6.frozen? ⟨wr.heap.size + 1 + 1, 7, none⟩ = false := frozen_of_row _ _ 7 _ _ HJ6.out.c
                have g3 : w6.cell? ⟨wr.heap.size, 3, none⟩ = some (.int .i64 dv) := cell_of_row _ _ 3 _ _ _ HJ6.out.d
                have g5 : w6.cell? ⟨wr.heap.size, 5, none⟩ = some (.bool false) := cell_of_row _ _ 5 _ _ _ HJ6.out.d
                go_upto_region 21 with ((with_reducible show wpList _ _ _ (⟨some 78, _, _, _, _, _⟩ :: _) _ _); refine wpList_have rfl (.tmp 76) (.tmp 77) rfl _ rfl HJ6.out.imh (dy % 4) rfl _ HH.out ?_)
                have HJ8 := hid (HJ6.out.setA v)
                clear c0 c1 c2 c3 c4 c5 c6 c7 g3 g5 z3 z5 z6 z7
                obtain ⟨w8, hnm⟩ : ∃ x, x = (w6.setCell ⟨wr.heap.size + 1 + 1, 6, none⟩ (.int .i64 v)) := ⟨_, rfl⟩
                rw [← hnm] at HJ8 ⊢
                clear hnm
                have c0 : w8.cell? ⟨wr.heap.size + 1 + 1, 0, none⟩ = some (.int .i64 (dw % 6)) := cell_of_row _ _ 0 _ _ _ HJ8.out.c
                have c1 : w8.cell? ⟨wr.heap.size + 1 + 1, 1, none⟩ = some (.int .i64 2) := cell_of_row _ _ 1 _ _ _ HJ8.out.c
                have c2 : w8.cell? ⟨wr.heap.size + 1 + 1, 2, none⟩ = some (.string (nameOf (dy % 4))) := cell_of_row _ _ 2 _ _ _ HJ8.out.c
                have c3 : w8.cell? ⟨wr.heap.size + 1 + 1, 3, none⟩ = some (.int .i64 0) := cell_of_row _ _ 3 _ _ _ HJ8.out.c
                have c4 : w8.cell? ⟨wr.heap.size + 1 + 1, 4, none⟩ = some (.int .i64 fr) := cell_of_row _ _ 4 _ _ _ HJ8.out.c
                have c5 : w8.cell? ⟨wr.heap.size + 1 + 1, 5, none⟩ = some (.int .i64 te) := cell_of_row _ _ 5 _ _ _ HJ8.out.c
                have c6 : w8.cell? ⟨wr.heap.size + 1 + 1, 6, none⟩ = some (.int .i64 v) := cell_of_row _ _ 6 _ _ _ HJ8.out.c
                have c7 : w8.cell? ⟨wr.heap.size + 1 + 1, 7, none⟩ = some (.int .i64 0) := cell_of_row _ _ 7 _ _ _ HJ8.out.c
                have z3 : w8.frozen? ⟨wr.heap.size + 1 + 1, 3, none⟩ = false := frozen_of_row _ _ 3 _ _ HJ8.out.c
                have z5 : w8.frozen? ⟨wr.heap.size + 1 + 1, 5, none⟩ = false := frozen_of_row _ _ 5 _ _ HJ8.out.c
                have z6 : w8.frozen? ⟨wr.heap.size + 1 + 1, 6, none⟩ = false := frozen_of_row _ _ 6 _ _ HJ8.out.c
                have z7 : w8.frozen? ⟨wr.heap.size + 1 + 1, 7, none⟩ = false := frozen_of_row _ _ 7 _ _ HJ8.out.c
                have g3 : w8.cell? ⟨wr.heap.size, 3, none⟩ = some (.int .i64 dv) := cell_of_row _ _ 3 _ _ _ HJ8.out.d
                have g5 : w8.cell? ⟨wr.heap.size, 5, none⟩ = some (.bool false) := cell_of_row _ _ 5 _ _ _ HJ8.out.d
                go_upto_region 22 with ((with_reducible show wpList _ _ _ (⟨none, Op.mapUpdate 56 _ _ _, _, _, _, _⟩ :: _) _ _); refine wpList_mapset K3 Try.underlying56 rfl (.tmp 108) (.tmp 109) (.tmp 111) (.inl rfl) (w.heap.size + 1) mf rfl HJ8.out.imf (dw % 6) rfl te rfl ?_; clear c0 c1 c2 c3 c4 c5 c6 c7 g3 g5 z3 z5 z6 z7; intro w9 hm9 hg9; have HJ9 := hid (HJ8.out.setf hm9 hg9); clear hm9 hg9)
                have c0 : w9.cell? ⟨wr.heap.size + 1 + 1, 0, none⟩ = some (.int .i64 (dw % 6)) := cell_of_row _ _ 0 _ _ _ HJ9.out.c
                have c1 : w9.cell? ⟨wr.heap.size + 1 + 1, 1, none⟩ = some (.int .i64 2) := cell_of_row _ _ 1 _ _ _ HJ9.out.c
                have c2 : w9.cell? ⟨wr.heap.size + 1 + 1, 2, none⟩ = some (.string (nameOf (dy % 4))) := cell_of_row _ _ 2 _ _ _ HJ9.out.c
                have c3 : w9.cell? ⟨wr.heap.size + 1 + 1, 3, none⟩ = some (.int .i64 0) := cell_of_row _ _ 3 _ _ _ HJ9.out.c
                have c4 : w9.cell? ⟨wr.heap.size + 1 + 1, 4, none⟩ = some (.int .i64 fr) := cell_of_row _ _ 4 _ _ _ HJ9.out.c
                have c5 : w9.cell? ⟨wr.heap.size + 1 + 1, 5, none⟩ = some (.int .i64 te) := cell_of_row _ _ 5 _ _ _ HJ9.out.c
                have c6 : w9.cell? ⟨wr.heap.size + 1 + 1, 6, none⟩ = some (.int .i64 v) := cell_of_row _ _ 6 _ _ _ HJ9.out.c
                have c7 : w9.cell? ⟨wr.heap.size + 1 + 1, 7, none⟩ = some (.int .i64 0) := cell_of_row _ _ 7 _ _ _ HJ9.out.c
                have z3 : w9.frozen? ⟨wr.heap.size + 1 + 1, 3, none⟩ = false := frozen_of_row _ _ 3 _ _ HJ9.out.c
                have z5 : w9.frozen? ⟨wr.heap.size + 1 + 1, 5, none⟩ = false := frozen_of_row _ _ 5 _ _ HJ9.out.c
                have z6 : w9.frozen? ⟨wr.heap.size + 1 + 1, 6, none⟩ = false := frozen_of_row _ _ 6 _ _ HJ9.out.c
                have z7 : w9.frozen? ⟨wr.heap.size + 1 + 1, 7, none⟩ = false := frozen_of_row _ _ 7 _ _ HJ9.out.c
                have g3 : w9.cell? ⟨wr.heap.size, 3, none⟩ = some (.int .i64 dv) := cell_of_row _ _ 3 _ _ _ HJ9.out.d
                have g5 : w9.cell? ⟨wr.heap.size, 5, none⟩ = some (.bool false) := cell_of_row _ _ 5 _ _ _ HJ9.out.d
                obtain ⟨lp, lc, rfl, -⟩ := own_shape HJ9.out.own
                go_wp2_with ((with_reducible show wpList _ _ _ (⟨some 122, _, _, _, _, _⟩ :: _) _ _); refine wpList_app ECall rfl (.tmp 119) (.tmp 121) rfl (w.heap.size + 2) _ s.l.length (s.l.flatMap Cl.cells) rfl (HJ9.out.own.alloc _) _ 1 1 (Cl.cells ⟨dw % 6, 2, nameOf (dy % 4), 0, fr, te, v, 0⟩) rfl rfl (fun e => by cases e) (row_newAt _ _ _ _ rfl) (cl_ones _) (by have := HLN.out; unfold maxLen; omega) (by have := HLN.out; omega) (by have h1 := HJ9.out.hb; have h2 := HJ9.out.size; simp; omega) ?_; clear c0 c1 c2 c3 c4 c5 c6 c7 g3 g5 z3 z5 z6 z7; intro v' w12 ho12 hg12 _; have HO12 := hid ho12; have HG12 := hid hg12; clear ho12 hg12)
                have HPN := hid (HP5.out.put2 hkl HDA.out HFE.out hf0 hf1 HFR.out HTE.out HHE.out (c := ⟨dw % 6, 2, nameOf (dy % 4), 0, fr, te, v, 0⟩) (by simp [hkd]) HO12.out (mh' := mh) (by simp [hkd]) (mf' := (aset mf (dw % 6) te)) (by simp) (HJ9.out.fin HG12.out))
                exact ⟨⟨k + 1, _, _, _, by have := HMX.out; omega, by go_num, HPN.out⟩, by simp [intOf]; omega⟩
            | none =>
              cases dp with
              | true =>
                have c0 : w6.cell? ⟨wr.heap.size + 1 + 1, 0, none⟩ = some (.int .i64 (dw % 6)) := cell_of_row _ _ 0 _ _ _ HJ6.out.c
                have c1 : w6.cell? ⟨wr.heap.size + 1 + 1, 1, none⟩ = some (.int .i64 2) := cell_of_row _ _ 1 _ _ _ HJ6.out.c
                have c2 : w6.cell? ⟨wr.heap.size + 1 + 1, 2, none⟩ = some (.string (nameOf (dy % 4))) := cell_of_row _ _ 2 _ _ _ HJ6.out.c
                have c3 : w6.cell? ⟨wr.heap.size + 1 + 1, 3, none⟩ = some (.int .i64 0) := cell_of_row _ _ 3 _ _ _ HJ6.out.c
                have c4 : w6.cell? ⟨wr.heap.size + 1 + 1, 4, none⟩ = some (.int .i64 fr) := cell_of_row _ _ 4 _ _ _ HJ6.out.c
                have c5 : w6.cell? ⟨wr.heap.size + 1 + 1, 5, none⟩ = some (.int .i64 te) := cell_of_row _ _ 5 _ _ _ HJ6.out.c
                have c6 : w6.cell? ⟨wr.heap.size + 1 + 1, 6, none⟩ = some (.int .i64 0) := cell_of_row _ _ 6 _ _ _ HJ6.out.c
                have c7 : w6.cell? ⟨wr.heap.size + 1 + 1, 7, none⟩ = some (.int .i64 0) := cell_of_row _ _ 7 _ _ _ HJ6.out.c
                have z3 : w6.frozen? ⟨wr.heap.size + 1 + 1, 3, none⟩ = false := frozen_of_row _ _ 3 _ _ HJ6.out.c
                have z5 : w6.frozen? ⟨wr.heap.size + 1 + 1, 5, none⟩ = false := frozen_of_row _ _ 5 _ _ HJ6.out.c
                have z6 : w6.frozen? ⟨wr.heap.size + 1 + 1, 6, none⟩ = false := frozen_of_row _ _ 6 _ _ HJ6.out.c
                have z7 : w6.frozen? ⟨wr.heap.size + 1 + 1, 7, none⟩ = false := frozen_of_row _ _ 7 _ _ HJ6.out.c
                have g3 : w6.cell? ⟨wr.heap.size, 3, none⟩ = some (.int .i64 dv) := cell_of_row _ _ 3 _ _ _ HJ6.out.d
                have g5 : w6.cell? ⟨wr.heap.size, 5, none⟩ = some (.bool true) := cell_of_row _ _ 5 _ _ _ HJ6.out.d
                go_upto_region 21 with ((with_reducible show wpList _ _ _ (⟨some 78, _, _, _, _, _⟩ :: _) _ _); refine wpList_have rfl (.tmp 76) (.tmp 77) rfl _ rfl HJ6.out.imh (dy % 4) rfl _ HH.out ?_)
                have HJ8 := hid (HJ6.out.setE 4)
                clear c0 c1 c2 c3 c4 c5 c6 c7 g3 g5 z3 z5 z6 z7
                obtain ⟨w8, hnm⟩ : ∃ x, x = (w6.setCell ⟨wr.heap.size + 1 + 1, 7, none⟩ (.int .i64 4)) := ⟨_, rfl⟩
                rw [← hnm] at HJ8 ⊢
                clear hnm
                have c0 : w8.cell? ⟨wr.heap.size + 1 + 1, 0, none⟩ = some (.int .i64 (dw % 6)) := cell_of_row _ _ 0 _ _ _ HJ8.out.c
                have c1 : w8.cell? ⟨wr.heap.size + 1 + 1, 1, none⟩ = some (.int .i64 2) := cell_of_row _ _ 1 _ _ _ HJ8.out.c
                have c2 : w8.cell? ⟨wr.heap.size + 1 + 1, 2, none⟩ = some (.string (nameOf (dy % 4))) := cell_of_row _ _ 2 _ _ _ HJ8.out.c
                have c3 : w8.cell? ⟨wr.heap.size + 1 + 1, 3, none⟩ = some (.int .i64 0) := cell_of_row _ _ 3 _ _ _ HJ8.out.c
                have c4 : w8.cell? ⟨wr.heap.size + 1 + 1, 4, none⟩ = some (.int .i64 fr) := cell_of_row _ _ 4 _ _ _ HJ8.out.c
                have c5 : w8.cell? ⟨wr.heap.size + 1 + 1, 5, none⟩ = some (.int .i64 te) := cell_of_row _ _ 5 _ _ _ HJ8.out.c
                have c6 : w8.cell? ⟨wr.heap.size + 1 + 1, 6, none⟩ = some (.int .i64 0) := cell_of_row _ _ 6 _ _ _ HJ8.out.c
                have c7 : w8.cell? ⟨wr.heap.size + 1 + 1, 7, none⟩ = some (.int .i64 4) := cell_of_row _ _ 7 _ _ _ HJ8.out.c
                have z3 : w8.frozen? ⟨wr.heap.size + 1 + 1, 3, none⟩ = false := frozen_of_row _ _ 3 _ _ HJ8.out.c
                have z5 : w8.frozen? ⟨wr.heap.size + 1 + 1, 5, none⟩ = false := frozen_of_row _ _ 5 _ _ HJ8.out.c
                have z6 : w8.frozen? ⟨wr.heap.size + 1 + 1, 6, none⟩ = false := frozen_of_row _ _ 6 _ _ HJ8.out.c
                have z7 : w8.frozen? ⟨wr.heap.size + 1 + 1, 7, none⟩ = false := frozen_of_row _ _ 7 _ _ HJ8.out.c
                have g3 : w8.cell? ⟨wr.heap.size, 3, none⟩ = some (.int .i64 dv) := cell_of_row _ _ 3 _ _ _ HJ8.out.d
                have g5 : w8.cell? ⟨wr.heap.size, 5, none⟩ = some (.bool true) := cell_of_row _ _ 5 _ _ _ HJ8.out.d
                go_upto_region 22 with ((with_reducible show wpList _ _ _ (⟨none, Op.mapUpdate 56 _ _ _, _, _, _, _⟩ :: _) _ _); refine wpList_mapset K3 Try.underlying56 rfl (.tmp 108) (.tmp 109) (.tmp 111) (.inl rfl) (w.heap.size + 1) mf rfl HJ8.out.imf (dw % 6) rfl te rfl ?_; clear c0 c1 c2 c3 c4 c5 c6 c7 g3 g5 z3 z5 z6 z7; intro w9 hm9 hg9; have HJ9 := hid (HJ8.out.setf hm9 hg9); clear hm9 hg9)
                have c0 : w9.cell? ⟨wr.heap.size + 1 + 1, 0, none⟩ = some (.int .i64 (dw % 6)) := cell_of_row _ _ 0 _ _ _ HJ9.out.c
                have c1 : w9.cell? ⟨wr.heap.size + 1 + 1, 1, none⟩ = some (.int .i64 2) := cell_of_row _ _ 1 _ _ _ HJ9.out.c
                have c2 : w9.cell? ⟨wr.heap.size + 1 + 1, 2, none⟩ = some (.string (nameOf (dy % 4))) := cell_of_row _ _ 2 _ _ _ HJ9.out.c
                have c3 : w9.cell? ⟨wr.heap.size + 1 + 1, 3, none⟩ = some (.int .i64 0) := cell_of_row _ _ 3 _ _ _ HJ9.out.c
                have c4 : w9.cell? ⟨wr.heap.size + 1 + 1, 4, none⟩ = some (.int .i64 fr) := cell_of_row _ _ 4 _ _ _ HJ9.out.c
                have c5 : w9.cell? ⟨wr.heap.size + 1 + 1, 5, none⟩ = some (.int .i64 te) := cell_of_row _ _ 5 _ _ _ HJ9.out.c
                have c6 : w9.cell? ⟨wr.heap.size + 1 + 1, 6, none⟩ = some (.int .i64 0) := cell_of_row _ _ 6 _ _ _ HJ9.out.c
                have c7 : w9.cell? ⟨wr.heap.size + 1 + 1, 7, none⟩ = some (.int .i64 4) := cell_of_row _ _ 7 _ _ _ HJ9.out.c
                have z3 : w9.frozen? ⟨wr.heap.size + 1 + 1, 3, none⟩ = false := frozen_of_row _ _ 3 _ _ HJ9.out.c
                have z5 : w9.frozen? ⟨wr.heap.size + 1 + 1, 5, none⟩ = false := frozen_of_row _ _ 5 _ _ HJ9.out.c
                have z6 : w9.frozen? ⟨wr.heap.size + 1 + 1, 6, none⟩ = false := frozen_of_row _ _ 6 _ _ HJ9.out.c
                have z7 : w9.frozen? ⟨wr.heap.size + 1 + 1, 7, none⟩ = false := frozen_of_row _ _ 7 _ _ HJ9.out.c
                have g3 : w9.cell? ⟨wr.heap.size, 3, none⟩ = some (.int .i64 dv) := cell_of_row _ _ 3 _ _ _ HJ9.out.d
                have g5 : w9.cell? ⟨wr.heap.size, 5, none⟩ = some (.bool true) := cell_of_row _ _ 5 _ _ _ HJ9.out.d
                go_upto_region 24 with (fail)
                have HJ10 := hid (((HJ9.out.setT (-1)).setE 0).setA 0)
                clear c0 c1 c2 c3 c4 c5 c6 c7 g3 g5 z3 z5 z6 z7
                obtain ⟨w10, hnm⟩ : ∃ x, x = (((w9.setCell ⟨wr.heap.size + 1 + 1, 5, none⟩ (.int .i64 (-1))).setCell ⟨wr.heap.size + 1 + 1, 7, none⟩ (.int .i64 0)).setCell ⟨wr.heap.size + 1 + 1, 6, none⟩ (.int .i64 0)) := ⟨_, rfl⟩
                rw [← hnm] at HJ10 ⊢
                clear hnm
                have c0 : w10.cell? ⟨wr.heap.size + 1 + 1, 0, none⟩ = some (.int .i64 (dw % 6)) := cell_of_row _ _ 0 _ _ _ HJ10.out.c
                have c1 : w10.cell? ⟨wr.heap.size + 1 + 1, 1, none⟩ = some (.int .i64 2) := cell_of_row _ _ 1 _ _ _ HJ10.out.c
                have c2 : w10.cell? ⟨wr.heap.size + 1 + 1, 2, none⟩ = some (.string (nameOf (dy % 4))) := cell_of_row _ _ 2 _ _ _ HJ10.out.c
                have c3 : w10.cell? ⟨wr.heap.size + 1 + 1, 3, none⟩ = some (.int .i64 0) := cell_of_row _ _ 3 _ _ _ HJ10.out.c
                have c4 : w10.cell? ⟨wr.heap.size + 1 + 1, 4, none⟩ = some (.int .i64 fr) := cell_of_row _ _ 4 _ _ _ HJ10.out.c
                have c5 : w10.cell? ⟨wr.heap.size + 1 + 1, 5, none⟩ = some (.int .i64 (-1)) := cell_of_row _ _ 5 _ _ _ HJ10.out.c
                have c6 : w10.cell? ⟨wr.heap.size + 1 + 1, 6, none⟩ = some (.int .i64 0) := cell_of_row _ _ 6 _ _ _ HJ10.out.c
                have c7 : w10.cell? ⟨wr.heap.size + 1 + 1, 7, none⟩ = some (.int .i64 0) := cell_of_row _ _ 7 _ _ _ HJ10.out.c
                have z3 : w10.frozen? ⟨wr.heap.size + 1 + 1, 3, none⟩ = false := frozen_of_row _ _ 3 _ _ HJ10.out.c
                have z5 : w10.frozen? ⟨wr.heap.size + 1 + 1, 5, none⟩ = false := frozen_of_row _ _ 5 _ _ HJ10.out.c
                have z6 : w10.frozen? ⟨wr.heap.size + 1 + 1, 6, none⟩ = false := frozen_of_row _ _ 6 _ _ HJ10.out.c
                have z7 : w10.frozen? ⟨wr.heap.size + 1 + 1, 7, none⟩ = false := frozen_of_row _ _ 7 _ _ HJ10.out.c
                have g3 : w10.cell? ⟨wr.heap.size, 3, none⟩ = some (.int .i64 dv) := cell_of_row _ _ 3 _ _ _ HJ10.out.d
                have g5 : w10.cell? ⟨wr.heap.size, 5, none⟩ = some (.bool true) := cell_of_row _ _ 5 _ _ _ HJ10.out.d
                go_upto_region 25 with ((with_reducible show wpList _ _ _ (⟨none, Op.mapUpdate 56 _ _ _, _, _, _, _⟩ :: _) _ _); refine wpList_mapset K3 Try.underlying56 rfl (.tmp 117) (.tmp 118) (.const (.int .i64 (-1))) (.inl rfl) (w.heap.size + 1) (aset mf (dw % 6) te) rfl HJ10.out.imf (dw % 6) rfl (-1) rfl ?_; clear c0 c1 c2 c3 c4 c5 c6 c7 g3 g5 z3 z5 z6 z7; intro w11 hm9 hg9; have HJ11 := hid (HJ10.out.setf hm9 hg9); clear hm9 hg9)
                have c0 : w11.cell? ⟨wr.heap.size + 1 + 1, 0, none⟩ = some (.int .i64 (dw % 6)) := cell_of_row _ _ 0 _ _ _ HJ11.out.c
                have c1 : w11.cell? ⟨wr.heap.size + 1 + 1, 1, none⟩ = some (.int .i64 2) := cell_of_row _ _ 1 _ _ _ HJ11.out.c
                have c2 : w11.cell? ⟨wr.heap.size + 1 + 1, 2, none⟩ = some (.string (nameOf (dy % 4))) := cell_of_row _ _ 2 _ _ _ HJ11.out.c
                have c3 : w11.cell? ⟨wr.heap.size + 1 + 1, 3, none⟩ = some (.int .i64 0) := cell_of_row _ _ 3 _ _ _ HJ11.out.c
                have c4 : w11.cell? ⟨wr.heap.size + 1 + 1, 4, none⟩ = some (.int .i64 fr) := cell_of_row _ _ 4 _ _ _ HJ11.out.c
                have c5 : w11.cell? ⟨wr.heap.size + 1 + 1, 5, none⟩ = some (.int .i64 (-1)) := cell_of_row _ _ 5 _ _ _ HJ11.out.c
                have c6 : w11.cell? ⟨wr.heap.size + 1 + 1, 6, none⟩ = some (.int .i64 0) := cell_of_row _ _ 6 _ _ _ HJ11.out.c
                have c7 : w11.cell? ⟨wr.heap.size + 1 + 1, 7, none⟩ = some (.int .i64 0) := cell_of_row _ _ 7 _ _ _ HJ11.out.c
                have z3 : w11.frozen? ⟨wr.heap.size + 1 + 1, 3, none⟩ = false := frozen_of_row _ _ 3 _ _ HJ11.out.c
                have z5 : w11.frozen? ⟨wr.heap.size + 1 + 1, 5, none⟩ = false := frozen_of_row _ _ 5 _ _ HJ11.out.c
                have z6 : w11.frozen? ⟨wr.heap.size + 1 + 1, 6, none⟩ = false := frozen_of_row _ _ 6 _ _ HJ11.out.c
                have z7 : w11.frozen? ⟨wr.heap.size + 1 + 1, 7, none⟩ = false := frozen_of_row _ _ 7 _ _ HJ11.out.c
                have g3 : w11.cell? ⟨wr.heap.size, 3, none⟩ = some (.int .i64 dv) := cell_of_row _ _ 3 _ _ _ HJ11.out.d
                have g5 : w11.cell? ⟨wr.heap.size, 5, none⟩ = some (.bool true) := cell_of_row _ _ 5 _ _ _ HJ11.out.d
                obtain ⟨lp, lc, rfl, -⟩ := own_shape HJ11.out.own
                go_wp2_with ((with_reducible show wpList _ _ _ (⟨some 122, _, _, _, _, _⟩ :: _) _ _); refine wpList_app ECall rfl (.tmp 119) (.tmp 121) rfl (w.heap.size + 2) _ s.l.length (s.l.flatMap Cl.cells) rfl (HJ11.out.own.alloc _) _ 1 1 (Cl.cells ⟨dw % 6, 2, nameOf (dy % 4), 0, fr, (-1), 0, 0⟩) rfl rfl (fun e => by cases e) (row_newAt _ _ _ _ rfl) (cl_ones _) (by have := HLN.out; unfold maxLen; omega) (by have := HLN.out; omega) (by have h1 := HJ11.out.hb; have h2 := HJ11.out.size; simp; omega) ?_; clear c0 c1 c2 c3 c4 c5 c6 c7 g3 g5 z3 z5 z6 z7; intro v' w12 ho12 hg12 _; have HO12 := hid ho12; have HG12 := hid hg12; clear ho12 hg12)
                have HPN := hid (HP5.out.put2 hkl HDA.out HFE.out hf0 hf1 HFR.out HTE.out HHE.out (c := ⟨dw % 6, 2, nameOf (dy % 4), 0, fr, (-1), 0, 0⟩) (by simp [hkd]) HO12.out (mh' := mh) (by simp [hkd]) (mf' := (aset (aset mf (dw % 6) te) (dw % 6) (-1))) (by simp) (HJ11.out.fin HG12.out))
                exact ⟨⟨k + 1, _, _, _, by have := HMX.out; omega, by go_num, HPN.out⟩, by simp [intOf]; omega⟩
              | false =>
                have c0 : w6.cell? ⟨wr.heap.size + 1 + 1, 0, none⟩ = some (.int .i64 (dw % 6)) := cell_of_row _ _ 0 _ _ _ HJ6.out.c
                have c1 : w6.cell? ⟨wr.heap.size + 1 + 1, 1, none⟩ = some (.int .i64 2) := cell_of_row _ _ 1 _ _ _ HJ6.out.c
                have c2 : w6.cell? ⟨wr.heap.size + 1 + 1, 2, none⟩ = some (.string (nameOf (dy % 4))) := cell_of_row _ _ 2 _ _ _ HJ6.out.c
                have c3 : w6.cell? ⟨wr.heap.size + 1 + 1, 3, none⟩ = some (.int .i64 0) := cell_of_row _ _ 3 _ _ _ HJ6.out.c
                have c4 : w6.cell? ⟨wr.heap.size + 1 + 1, 4, none⟩ = some (.int .i64 fr) := cell_of_row _ _ 4 _ _ _ HJ6.out.c
                have c5 : w6.cell? ⟨wr.heap.size + 1 + 1, 5, none⟩ = some (.int .i64 te) := cell_of_row _ _ 5 _ _ _ HJ6.out.c
                have c6 : w6.cell? ⟨wr.heap.size + 1 + 1, 6, none⟩ = some (.int .i64 0) := cell_of_row _ _ 6 _ _ _ HJ6.out.c
                have c7 : w6.cell? ⟨wr.heap.size + 1 + 1, 7, none⟩ = some (.int .i64 0) := cell_of_row _ _ 7 _ _ _ HJ6.out.c
                have z3 : w6.frozen? ⟨wr.heap.size + 1 + 1, 3, none⟩ = false := frozen_of_row _ _ 3 _ _ HJ6.out.c
                have z5 : w6.frozen? ⟨wr.heap.size + 1 + 1, 5, none⟩ = false := frozen_of_row _ _ 5 _ _ HJ6.out.c
                have z6 : w6.frozen? ⟨wr.heap.size + 1 + 1, 6, none⟩ = false := frozen_of_row _ _ 6 _ _ HJ6.out.c
                have z7 : w6.frozen? ⟨wr.heap.size + 1 + 1, 7, none⟩ = false := frozen_of_row _ _ 7 _ _ HJ6.out.c
                have g3 : w6.cell? ⟨wr.heap.size, 3, none⟩ = some (.int .i64 dv) := cell_of_row _ _ 3 _ _ _ HJ6.out.d
                have g5 : w6.cell? ⟨wr.heap.size, 5, none⟩ = some (.bool false) := cell_of_row _ _ 5 _ _ _ HJ6.out.d
                go_upto_region 21 with ((with_reducible show wpList _ _ _ (⟨some 78, _, _, _, _, _⟩ :: _) _ _); refine wpList_have rfl (.tmp 76) (.tmp 77) rfl _ rfl HJ6.out.imh (dy % 4) rfl _ HH.out ?_)
                have HJ8 := hid (HJ6.out.setE 4)
                clear c0 c1 c2 c3 c4 c5 c6 c7 g3 g5 z3 z5 z6 z7
                obtain ⟨w8, hnm⟩ : ∃ x, x = (w6.setCell ⟨wr.heap.size + 1 + 1, 7, none⟩ (.int .i64 4)) := ⟨_, rfl⟩
                rw [← hnm] at HJ8 ⊢
                clear hnm
                have c0 : w8.cell? ⟨wr.heap.size + 1 + 1, 0, none⟩ = some (.int .i64 (dw % 6)) := cell_of_row _ _ 0 _ _ _ HJ8.out.c
                have c1 : w8.cell? ⟨wr.heap.size + 1 + 1, 1, none⟩ = some (.int .i64 2) := cell_of_row _ _ 1 _ _ _ HJ8.out.c
                have c2 : w8.cell? ⟨wr.heap.size + 1 + 1, 2, none⟩ = some (.string (nameOf (dy % 4))) := cell_of_row _ _ 2 _ _ _ HJ8.out.c
                have c3 : w8.cell? ⟨wr.heap.size + 1 + 1, 3, none⟩ = some (.int .i64 0) := cell_of_row _ _ 3 _ _ _ HJ8.out.c
                have c4 : w8.cell? ⟨wr.heap.size + 1 + 1, 4, none⟩ = some (.int .i64 fr) := cell_of_row _ _ 4 _ _ _ HJ8.out.c
                have c5 : w8.cell? ⟨wr.heap.size + 1 + 1, 5, none⟩ = some (.int .i64 te) := cell_of_row _ _ 5 _ _ _ HJ8.out.c
                have c6 : w8.cell? ⟨wr.heap.size + 1 + 1, 6, none⟩ = some (.int .i64 0) := cell_of_row _ _ 6 _ _ _ HJ8.out.c
                have c7 : w8.cell? ⟨wr.heap.size + 1 + 1, 7, none⟩ = some (.int .i64 4) := cell_of_row _ _ 7 _ _ _ HJ8.out.c
                have z3 : w8.frozen? ⟨wr.heap.size + 1 + 1, 3, none⟩ = false := frozen_of_row _ _ 3 _ _ HJ8.out.c
                have z5 : w8.frozen? ⟨wr.heap.size + 1 + 1, 5, none⟩ = false := frozen_of_row _ _ 5 _ _ HJ8.out.c
                have z6 : w8.frozen? ⟨wr.heap.size + 1 + 1, 6, none⟩ = false := frozen_of_row _ _ 6 _ _ HJ8.out.c
                have z7 : w8.frozen? ⟨wr.heap.size + 1 + 1, 7, none⟩ = false := frozen_of_row _ _ 7 _ _ HJ8.out.c
                have g3 : w8.cell? ⟨wr.heap.size, 3, none⟩ = some (.int .i64 dv) := cell_of_row _ _ 3 _ _ _ HJ8.out.d
                have g5 : w8.cell? ⟨wr.heap.size, 5, none⟩ = some (.bool false) := cell_of_row _ _ 5 _ _ _ HJ8.out.d
                go_upto_region 22 with ((with_reducible show wpList _ _ _ (⟨none, Op.mapUpdate 56 _ _ _, _, _, _, _⟩ :: _) _ _); refine wpList_mapset K3 Try.underlying56 rfl (.tmp 108) (.tmp 109) (.tmp 111) (.inl rfl) (w.heap.size + 1) mf rfl HJ8.out.imf (dw % 6) rfl te rfl ?_; clear c0 c1 c2 c3 c4 c5 c6 c7 g3 g5 z3 z5 z6 z7; intro w9 hm9 hg9; have HJ9 := hid (HJ8.out.setf hm9 hg9); clear hm9 hg9)
                have c0 : w9.cell? ⟨wr.heap.size + 1 + 1, 0, none⟩ = some (.int .i64 (dw % 6)) := cell_of_row _ _ 0 _ _ _ HJ9.out.c
                have c1 : w9.cell? ⟨wr.heap.size + 1 + 1, 1, none⟩ = some (.int .i64 2) := cell_of_row _ _ 1 _ _ _ HJ9.out.c
                have c2 : w9.cell? ⟨wr.heap.size + 1 + 1, 2, none⟩ = some (.string (nameOf (dy % 4))) := cell_of_row _ _ 2 _ _ _ HJ9.out.c
                have c3 : w9.cell? ⟨wr.heap.size + 1 + 1, 3, none⟩ = some (.int .i64 0) := cell_of_row _ _ 3 _ _ _ HJ9.out.c
                have c4 : w9.cell? ⟨wr.heap.size + 1 + 1, 4, none⟩ = some (.int .i64 fr) := cell_of_row _ _ 4 _ _ _ HJ9.out.c
                have c5 : w9.cell? ⟨wr.heap.size + 1 + 1, 5, none⟩ = some (.int .i64 te) := cell_of_row _ _ 5 _ _ _ HJ9.out.c
                have c6 : w9.cell? ⟨wr.heap.size + 1 + 1, 6, none⟩ = some (.int .i64 0) := cell_of_row _ _ 6 _ _ _ HJ9.out.c
                have c7 : w9.cell? ⟨wr.heap.size + 1 + 1, 7, none⟩ = some (.int .i64 4) := cell_of_row _ _ 7 _ _ _ HJ9.out.c
                have z3 : w9.frozen? ⟨wr.heap.size + 1 + 1, 3, none⟩ = false := frozen_of_row _ _ 3 _ _ HJ9.out.c
                have z5 : w9.frozen? ⟨wr.heap.size + 1 + 1, 5, none⟩ = false := frozen_of_row _ _ 5 _ _ HJ9.out.c
                have z6 : w9.frozen? ⟨wr.heap.size + 1 + 1, 6, none⟩ = false := frozen_of_row _ _ 6 _ _ HJ9.out.c
                have z7 : w9.frozen? ⟨wr.heap.size + 1 + 1, 7, none⟩ = false := frozen_of_row _ _ 7 _ _ HJ9.out.c
                have g3 : w9.cell? ⟨wr.heap.size, 3, none⟩ = some (.int .i64 dv) := cell_of_row _ _ 3 _ _ _ HJ9.out.d
                have g5 : w9.cell? ⟨wr.heap.size, 5, none⟩ = some (.bool false) := cell_of_row _ _ 5 _ _ _ HJ9.out.d
                obtain ⟨lp, lc, rfl, -⟩ := own_shape HJ9.out.own
                go_wp2_with ((with_reducible show wpList _ _ _ (⟨some 122, _, _, _, _, _⟩ :: _) _ _); refine wpList_app ECall rfl (.tmp 119) (.tmp 121) rfl (w.heap.size + 2) _ s.l.length (s.l.flatMap Cl.cells) rfl (HJ9.out.own.alloc _) _ 1 1 (Cl.cells ⟨dw % 6, 2, nameOf (dy % 4), 0, fr, te, 0, 4⟩) rfl rfl (fun e => by cases e) (row_newAt _ _ _ _ rfl) (cl_ones _) (by have := HLN.out; unfold maxLen; omega) (by have := HLN.out; omega) (by have h1 := HJ9.out.hb; have h2 := HJ9.out.size; simp; omega) ?_; clear c0 c1 c2 c3 c4 c5 c6 c7 g3 g5 z3 z5 z6 z7; intro v' w12 ho12 hg12 _; have HO12 := hid ho12; have HG12 := hid hg12; clear ho12 hg12)
                have HPN := hid (HP5.out.put2 hkl HDA.out HFE.out hf0 hf1 HFR.out HTE.out HHE.out (c := ⟨dw % 6, 2, nameOf (dy % 4), 0, fr, te, 0, 4⟩) (by simp [hkd]) HO12.out (mh' := mh) (by simp [hkd]) (mf' := (aset mf (dw % 6) te)) (by simp) (HJ9.out.fin HG12.out))
                exact ⟨⟨k + 1, _, _, _, by have := HMX.out; omega, by go_num, HPN.out⟩, by simp [intOf]; omega⟩
    · have hke : k = mm := by omega
      have HV : Hid (sc.take k = sc.take 40) := by
        have := HMX.out
        rw [Hid, hke]
        by_cases h : sc.length ≤ 40
        · rw [show mm = sc.length by omega, List.take_of_length_le (Nat.le_refl _), List.take_of_length_le h]
        · rw [show mm = 40 by omega]
      have HO : Hid (OwnC wr (w.heap.size + 2) u3 (pRun 0 (sc.take 40) pS0).l) := by have h := HP.out.own; rw [HP.out.st, HV.out] at h; exact h
      subst hke
      go_wp2
      go_ret
      exact ⟨_, rfl, HO.out, HP.out.below⟩
end Go.Proofs.Ytdkknnmgdghioaa
