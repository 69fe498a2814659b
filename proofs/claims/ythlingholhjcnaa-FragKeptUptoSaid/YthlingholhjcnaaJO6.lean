/-
  The document's maker: told; first.
  The document's first.
  The document's row (printed by genrow.py).
  The document's row: instructions, data, bytes.
-/
import Derived.Test.YthlingholhjcnaaJO5
namespace Go.Proofs.Ythlingholhjcnaa
open Go.RowKit
variable {W W' w w' : World} {base m : Nat} {X X' : FV} {file line : Int} {name : ByteArray}

/-- What told reads besides the globals. -/
structure RTd (m b q : Nat) (s : ByteArray) (file line : Int) (name : ByteArray) (w' : World) : Prop where
  fl : FL m 4 file line name w'
  s : w'.cell? ⟨b, q, none⟩ = some (.string s)
set_option maxRecDepth 20000 in
set_option maxHeartbeats 4000000 in
theorem rtold_any (h : RkN W base m X file line name) {n : Nat} (hn : Sm X n) (l : Sl ByteArray) (hn2 : n + l.l.length ≤ 4000000) (hl : SlOk W (fun s : ByteArray => [Value.string s]) 16 l) (hlow : ∀ a, l.p = some a → l.l ≠ [] → a.block < base) :
    Calls Try.prog 45 #[.pointer (some ⟨m, 0, none⟩), .slice l.p l.l.length l.c] W (RPutT W base m file line name (X.pl.told file line l.l) (n + l.l.length)) := by
  have HC := hid h
  have HV := hid hl
  have HI0 : Hid (∃ X', RkN W base m X' file line name ∧ X'.pl = X.pl.told file line (l.l.take 0) ∧ Sm X' (n + 0) ∧ Trn base W W) := ⟨X, h, rfl, hn, TrnP.refl _ _⟩
  have hcap := hl.cap
  have HLOW := hid hlow
  clear h hn hl hlow
  obtain ⟨len, hlen⟩ : ∃ len, len = l.l.length := ⟨_, rfl⟩
  have HLEN := hid hlen
  rw [← hlen] at hcap hn2 ⊢
  clear hlen
  go_enter Try.func45, Try.ntmps45
  go_wp2_with (fail)
  go_loopw [4] (fun i wr => ∃ (k : Nat), k ≤ len ∧ i = .int .i64 k ∧ ∃ X', RkN wr base m X' file line name ∧ X'.pl = X.pl.told file line (l.l.take k) ∧ Sm X' (n + k) ∧ Trn base W wr) (fun i _ => len - (intOf i).toNat)
  case atStart => exact ⟨0, by omega, rfl, HI0.out⟩
  case round =>
    rename World => wr
    obtain ⟨k, hk, rfl, X3, h3, hp3, hs3, ht3⟩ := hrel
    have H3 := hid h3
    have HP3 := hid hp3
    have HS3 := hid hs3
    have HT3 := hid ht3
    clear HI0
    by_cases hlt : k < len
    · have hkI : (k : Int) < len := by omega
      have hkl : k < l.l.length := by rw [← HLEN.out]; exact hlt
      have hrow := HV.out.row
      rw [← map_flat1] at hrow
      obtain ⟨b, o, hpe, hbl, hc⟩ := hrow.at (by simpa using (by omega : 0 < l.l.length))
      have v0 := hc k (by simpa using hkl)
      simp only [List.getElem_map] at v0
      have hbb : b < base := HLOW.out ⟨b, o, none⟩ hpe (by intro e; rw [e] at hkl; simp at hkl)
      have hkeep : wr.heap[b]? = W.heap[b]? := ht3.1.block b hbb
      have u0 : wr.cell? ⟨b, o + k, none⟩ = _ := (World.cell?_of_block (a := ⟨b, o + k, none⟩) hkeep).trans v0
      have HST : Hid (X.pl.told file line (l.l.take (k + 1)) = (X.pl.told file line (l.l.take k)).told1 file line l.l[k]) := foldl_take _ _ _ _ hkl
      generalize l.l[k] = v at *
      have HF := hid (rfault_any h3 (Nat.le_trans hs3.fs (by omega)) 3)
      obtain ⟨c0, c1, c2, c4, hfl⟩ := h3.cells
      rw [hpe] at *
      by_cases hlong : 255 < v.size
      · have hlI : (255 : Int) < (v.size : Int) := by omega
        clear h3 hp3 hs3 ht3 hrow v0 hc hkeep hkl hpe c0 c1 c2 c4 hfl
        go_wp2_with (go_at_call 41; (with_reducible refine HF.out.mono ?_); rintro e w6 ⟨rfl, ⟨v', h6⟩, ht6⟩; have H6 := hid (And.intro h6 ht6); clear h6 ht6)
        refine ⟨⟨k + 1, by omega, by go_num, _, H6.out.1, ?_, ?_, HT3.out.trans H6.out.2⟩, by simp [intOf]; omega⟩
        · rw [HST.out, ← HP3.out]; unfold FP.told1; rw [if_pos hlong]; rfl
        · have q := HS3.out
          exact ⟨Nat.le_succ_of_le q.ps, Nat.le_succ_of_le q.ms, Nat.le_succ_of_le q.gs, by show (X3.fs ++ [_]).length ≤ _; rw [List.length_append]; have := q.fs; simp; omega, fun y hy => Nat.le_succ_of_le (q.pcs y hy)⟩
      · have hlI : ¬ (255 : Int) < (v.size : Int) := by omega
        have HLG := hid hlong
        obtain ⟨pv, cv, hvc, -⟩ := own_shape h3.is.globals
        rw [hvc] at c2
        have hz3 := h3.hz
        have hml : m < wr.heap.size := h3.lt
        have hgl : X3.gs.length ≤ n + k := hs3.gs
        have hbw : b < wr.heap.size := by omega
        have hbm : b ≠ m := by have := h3.ge; omega
        have HP7 : Hid (wr.ownsRow base 90 3 (.slice pv X3.gs.length cv) X3.gs.length (X3.gs.flatMap Td.cells)) := by have := h3.is.globals; rw [hvc] at this; exact this
        have HVC : Hid (X3.gv.ownBlock = (Value.slice pv X3.gs.length cv).ownBlock) := by unfold Hid; rw [hvc]
        have HSL : Hid (∀ o' : Obj, RTd m b (o + k) v file line name (wr.alloc o').drew) := fun o' => ⟨(hfl.blk (Below.heap_alloc wr o' m hml)).drew, (World.cell?_of_block (a := ⟨b, o + k, none⟩) (Below.heap_alloc wr o' b hbw)).trans u0⟩
        have HH0 : Hid (RTd m b (o + k) v file line name wr.drew) := ⟨hfl.drew, u0⟩
        have c2L : ∀ o : Obj, (wr.alloc o).cell? ⟨m, 2, none⟩ = some (.slice pv X3.gs.length cv) := fun o => (World.cell?_of_block (a := ⟨m, 2, none⟩) (Below.heap_alloc wr o m hml)).trans c2
        have a5 : ∀ w' : World, RTd m b (o + k) v file line name w' → w'.cell? ⟨m, 4, none⟩ = some (.int .i64 file) := fun _ h => h.fl.f
        have a6 : ∀ w' : World, RTd m b (o + k) v file line name w' → w'.cell? ⟨m, 5, none⟩ = some (.int .i64 line) := fun _ h => h.fl.l
        have a7 : ∀ w' : World, RTd m b (o + k) v file line name w' → w'.cell? ⟨b, o + k, none⟩ = some (.string v) := fun _ h => h.s
        have HK8 : Hid (∀ (o' : Obj) (w8 : World), (wr.alloc o').drew.grownBy w8 (Value.slice pv X3.gs.length cv).ownBlock → RTd m b (o + k) v file line name w8 ∧ w8.heap[m]? = some (.cells (headR X3 file line name) 85 (0, 0))) := fun o' w8 hg => by
          obtain ⟨e1, e2⟩ := H3.out.appTold (by rw [HVC.out]; exact hg)
          have hg2 := grown_undrew hg
          have e3 : w8.heap[b]? = wr.heap[b]? := (hg2.block b (by simp; omega) (fun e => by have := own_ge HP7.out b e.symm; omega)).trans (Below.heap_alloc wr o' b hbw)
          exact ⟨⟨e2, (World.cell?_of_block (a := ⟨b, o + k, none⟩) e3).trans u0⟩, e1⟩
        have HBS : Hid (∀ (w' : World) (u : Value), RTd m b (o + k) v file line name w' → RTd m b (o + k) v file line name (w'.setCell ⟨m, 2, none⟩ u)) := fun w' u hw => ⟨hw.fl.set (by decide) u, (World.cell?_of_block (a := ⟨b, o + k, none⟩) (heap_setCell_other _ _ _ _ hbm)).trans hw.s⟩
        clear h3 hp3 hs3 ht3 hrow v0 hc hkeep hkl hpe c0 c1 c4 hfl hvc hlong
        obtain ⟨gl, hgn⟩ : ∃ gl, gl = X3.gs.length := ⟨_, rfl⟩
        have HGN := hid hgn
        rw [← hgn] at HP7 HVC c2 c2L hgl HK8
        clear hgn
        go_wp2_with (fail)
        go_upto_region 5 with (fail)
        refine wp_region_held_drew (S := RTd m b (o + k) v file line name) (by kernel_rfl) HH0.out (fun hHeld => ?_)
        refine wpAnyH_take (i := 0) (oi := { dst := some 19, op := Op.move (Operand.tmp 0), type := 83, pos := "ref.go:95", after := #[], guard := none }) (v := ?pbv0) rfl (by kernel_rfl) (by kernel_rfl) (by kernel_rfl) (fun _ _ _ h => h) (Or.inl ⟨by rfl, ?pbh0⟩) (by assumption) ?pbr0
        case pbh0 => ((intro w hSw; (try dsimp only at hSw); go_simp); try with_reducible rfl)
        try simp only [Act.put, List.setIfInBounds_toArray, List.set_cons_zero, List.set_cons_succ]
        refine wpAnyH_take (i := 1) (oi := { dst := some 20, op := Op.move (Operand.tmp 0), type := 83, pos := "ref.go:95", after := #[], guard := none }) (v := ?pbv1) rfl (by kernel_rfl) (by kernel_rfl) (by kernel_rfl) (fun _ _ _ h => h) (Or.inl ⟨by rfl, ?pbh1⟩) (by assumption) ?pbr1
        case pbh1 => ((intro w hSw; (try dsimp only at hSw); go_simp); try with_reducible rfl)
        try simp only [Act.put, List.setIfInBounds_toArray, List.set_cons_zero, List.set_cons_succ]
        refine wpAnyH_take (i := 2) (oi := { dst := some 21, op := Op.nilCheck (Operand.tmp 20), type := 0, pos := "ref.go:95", after := #[{ on := 1, ground := Ground.data }], guard := none }) (v := ?pbv2) rfl (by kernel_rfl) (by kernel_rfl) (by kernel_rfl) (fun _ _ _ h => h) (Or.inl ⟨by rfl, ?pbh2⟩) (by assumption) ?pbr2
        case pbh2 => ((intro w hSw; (try dsimp only at hSw); go_simp); try with_reducible rfl)
        try simp only [Act.put, List.setIfInBounds_toArray, List.set_cons_zero, List.set_cons_succ]
        refine wpAnyH_take (i := 3) (oi := { dst := some 22, op := Op.fieldAddr 85 (Operand.tmp 21) 0, type := 0, pos := "ref.go:95", after := #[{ on := 2, ground := Ground.data }], guard := none }) (v := ?pbv3) rfl (by kernel_rfl) (by kernel_rfl) (by kernel_rfl) (fun _ _ _ h => h) (Or.inl ⟨by rfl, ?pbh3⟩) (by assumption) ?pbr3
        case pbh3 => ((intro w hSw; (try dsimp only at hSw); go_simp); try with_reducible rfl)
        try simp only [Act.put, List.setIfInBounds_toArray, List.set_cons_zero, List.set_cons_succ]
        refine wpAnyH_take (i := 4) (oi := { dst := some 23, op := Op.fieldAddr 32 (Operand.tmp 22) 2, type := 0, pos := "ref.go:95", after := #[{ on := 3, ground := Ground.data }], guard := none }) (v := ?pbv4) rfl (by kernel_rfl) (by kernel_rfl) (by kernel_rfl) (fun _ _ _ h => h) (Or.inl ⟨by rfl, ?pbh4⟩) (by assumption) ?pbr4
        case pbh4 => ((intro w hSw; (try dsimp only at hSw); go_simp); try with_reducible rfl)
        try simp only [Act.put, List.setIfInBounds_toArray, List.set_cons_zero, List.set_cons_succ]
        refine wpAnyH_take (i := 6) (oi := { dst := some 25, op := Op.move (Operand.tmp 1), type := 53, pos := "ref.go:95", after := #[], guard := none }) (v := ?pbv6) rfl (by kernel_rfl) (by kernel_rfl) (by kernel_rfl) (fun _ _ _ h => h) (Or.inl ⟨by rfl, ?pbh6⟩) (by assumption) ?pbr6
        case pbh6 => ((intro w hSw; (try dsimp only at hSw); go_simp); try with_reducible rfl)
        try simp only [Act.put, List.setIfInBounds_toArray, List.set_cons_zero, List.set_cons_succ]
        refine wpAnyH_take (i := 7) (oi := { dst := some 26, op := Op.move (Operand.tmp 4), type := 3, pos := "ref.go:95", after := #[], guard := none }) (v := ?pbv7) rfl (by kernel_rfl) (by kernel_rfl) (by kernel_rfl) (fun _ _ _ h => h) (Or.inl ⟨by rfl, ?pbh7⟩) (by assumption) ?pbr7
        case pbh7 => ((intro w hSw; (try dsimp only at hSw); go_simp); try with_reducible rfl)
        try simp only [Act.put, List.setIfInBounds_toArray, List.set_cons_zero, List.set_cons_succ]
        refine wpAnyH_take (i := 8) (oi := { dst := some 27, op := Op.indexAddr 53 (Operand.tmp 25) (Operand.tmp 26), type := 0, pos := "ref.go:95", after := #[{ on := 6, ground := Ground.data }, { on := 7, ground := Ground.data }], guard := none }) (v := ?pbv8) rfl (by kernel_rfl) (by kernel_rfl) (by kernel_rfl) (fun _ _ _ h => h) (Or.inl ⟨by rfl, ?pbh8⟩) (by assumption) ?pbr8
        case pbh8 => ((intro w hSw; (try dsimp only at hSw); go_simp); try with_reducible rfl)
        try simp only [Act.put, List.setIfInBounds_toArray, List.set_cons_zero, List.set_cons_succ]
        refine wpAnyH_take (i := 9) (oi := { dst := some 28, op := Op.load 9 (Operand.tmp 27), type := 9, pos := "ref.go:95", after := #[{ on := 8, ground := Ground.data }], guard := none }) (v := ?pbv9) rfl (by kernel_rfl) (by kernel_rfl) (by kernel_rfl) (fun _ _ _ h => h) (Or.inl ⟨by rfl, ?pbh9⟩) (by assumption) ?pbr9
        case pbh9 => ((intro w hSw; (try dsimp only at hSw); go_simp); try with_reducible rfl)
        try simp only [Act.put, List.setIfInBounds_toArray, List.set_cons_zero, List.set_cons_succ]
        refine wpAnyH_take (i := 10) (oi := { dst := some 29, op := Op.move (Operand.tmp 0), type := 83, pos := "ref.go:95", after := #[], guard := none }) (v := ?pbv10) rfl (by kernel_rfl) (by kernel_rfl) (by kernel_rfl) (fun _ _ _ h => h) (Or.inl ⟨by rfl, ?pbh10⟩) (by assumption) ?pbr10
        case pbh10 => ((intro w hSw; (try dsimp only at hSw); go_simp); try with_reducible rfl)
        try simp only [Act.put, List.setIfInBounds_toArray, List.set_cons_zero, List.set_cons_succ]
        refine wpAnyH_take (i := 11) (oi := { dst := some 30, op := Op.nilCheck (Operand.tmp 29), type := 0, pos := "ref.go:95", after := #[{ on := 10, ground := Ground.data }], guard := none }) (v := ?pbv11) rfl (by kernel_rfl) (by kernel_rfl) (by kernel_rfl) (fun _ _ _ h => h) (Or.inl ⟨by rfl, ?pbh11⟩) (by assumption) ?pbr11
        case pbh11 => ((intro w hSw; (try dsimp only at hSw); go_simp); try with_reducible rfl)
        try simp only [Act.put, List.setIfInBounds_toArray, List.set_cons_zero, List.set_cons_succ]
        refine wpAnyH_take (i := 12) (oi := { dst := some 31, op := Op.fieldAddr 85 (Operand.tmp 30) 2, type := 0, pos := "ref.go:95", after := #[{ on := 11, ground := Ground.data }], guard := none }) (v := ?pbv12) rfl (by kernel_rfl) (by kernel_rfl) (by kernel_rfl) (fun _ _ _ h => h) (Or.inl ⟨by rfl, ?pbh12⟩) (by assumption) ?pbr12
        case pbh12 => ((intro w hSw; (try dsimp only at hSw); go_simp); try with_reducible rfl)
        try simp only [Act.put, List.setIfInBounds_toArray, List.set_cons_zero, List.set_cons_succ]
        refine wpAnyH_take (i := 13) (oi := { dst := some 32, op := Op.load 3 (Operand.tmp 31), type := 3, pos := "ref.go:95", after := #[{ on := 12, ground := Ground.data }], guard := none }) (v := ?pbv13) rfl (by kernel_rfl) (by kernel_rfl) (by kernel_rfl) (fun _ _ _ h => h) (Or.inl ⟨by rfl, ?pbh13⟩) (by assumption) ?pbr13
        case pbh13 => ((intro w hSw; (try dsimp only at hSw); go_simp); try with_reducible rfl)
        try simp only [Act.put, List.setIfInBounds_toArray, List.set_cons_zero, List.set_cons_succ]
        refine wpAnyH_take (i := 14) (oi := { dst := some 33, op := Op.move (Operand.tmp 0), type := 83, pos := "ref.go:95", after := #[], guard := none }) (v := ?pbv14) rfl (by kernel_rfl) (by kernel_rfl) (by kernel_rfl) (fun _ _ _ h => h) (Or.inl ⟨by rfl, ?pbh14⟩) (by assumption) ?pbr14
        case pbh14 => ((intro w hSw; (try dsimp only at hSw); go_simp); try with_reducible rfl)
        try simp only [Act.put, List.setIfInBounds_toArray, List.set_cons_zero, List.set_cons_succ]
        refine wpAnyH_take (i := 15) (oi := { dst := some 34, op := Op.nilCheck (Operand.tmp 33), type := 0, pos := "ref.go:95", after := #[{ on := 14, ground := Ground.data }], guard := none }) (v := ?pbv15) rfl (by kernel_rfl) (by kernel_rfl) (by kernel_rfl) (fun _ _ _ h => h) (Or.inl ⟨by rfl, ?pbh15⟩) (by assumption) ?pbr15
        case pbh15 => ((intro w hSw; (try dsimp only at hSw); go_simp); try with_reducible rfl)
        try simp only [Act.put, List.setIfInBounds_toArray, List.set_cons_zero, List.set_cons_succ]
        refine wpAnyH_take (i := 16) (oi := { dst := some 35, op := Op.fieldAddr 85 (Operand.tmp 34) 3, type := 0, pos := "ref.go:95", after := #[{ on := 15, ground := Ground.data }], guard := none }) (v := ?pbv16) rfl (by kernel_rfl) (by kernel_rfl) (by kernel_rfl) (fun _ _ _ h => h) (Or.inl ⟨by rfl, ?pbh16⟩) (by assumption) ?pbr16
        case pbh16 => ((intro w hSw; (try dsimp only at hSw); go_simp); try with_reducible rfl)
        try simp only [Act.put, List.setIfInBounds_toArray, List.set_cons_zero, List.set_cons_succ]
        refine wpAnyH_take (i := 17) (oi := { dst := some 36, op := Op.load 3 (Operand.tmp 35), type := 3, pos := "ref.go:95", after := #[{ on := 16, ground := Ground.data }], guard := none }) (v := ?pbv17) rfl (by kernel_rfl) (by kernel_rfl) (by kernel_rfl) (fun _ _ _ h => h) (Or.inl ⟨by rfl, ?pbh17⟩) (by assumption) ?pbr17
        case pbh17 => ((intro w hSw; (try dsimp only at hSw); go_simp); try with_reducible rfl)
        try simp only [Act.put, List.setIfInBounds_toArray, List.set_cons_zero, List.set_cons_succ]
        refine wpAnyH_take (i := 18) (oi := { dst := some 37, op := Op.build 90 #[(0, Operand.tmp 28), (1, Operand.tmp 32), (2, Operand.tmp 36)], type := 90, pos := "ref.go:95", after := #[{ on := 9, ground := Ground.data }, { on := 13, ground := Ground.data }, { on := 17, ground := Ground.data }], guard := none }) (v := ?pbv18) rfl (by kernel_rfl) (by kernel_rfl) (by kernel_rfl) (fun _ _ _ h => h) (Or.inl ⟨by rfl, ?pbh18⟩) (by assumption) ?pbr18
        case pbh18 => ((intro w hSw; (try dsimp only at hSw); go_simp); try with_reducible rfl)
        try simp only [Act.put, List.setIfInBounds_toArray, List.set_cons_zero, List.set_cons_succ]
        refine wpAnyH_ready (rs := [5, 19]) (by kernel_rfl) (by simp) ?_
        refine AllReadyH.cons (o := { dst := some 24, op := Op.load 30 (Operand.tmp 23), type := 30, pos := "ref.go:95", after := #[{ on := 4, ground := Ground.data }], guard := none }) rfl (fun K hK => ?_) ?_
        · go_simp; refine hK.out _ _ (by first | exact HH0.out | exact HSL.out _) (fun hHeld => ?_)
          clear hK K
          try simp only [Act.put, List.setIfInBounds_toArray, List.set_cons_zero, List.set_cons_succ]
          refine wpAnyH_ready (rs := [19]) (by kernel_rfl) (by simp) ?_
          refine AllReadyH.cons (o := { dst := some 38, op := Op.buildSlice 30 1 #[(0, Operand.tmp 37)], type := 30, pos := "ref.go:95", after := #[{ on := 18, ground := Ground.data }], guard := none }) rfl (fun K hK => ?_) AllReadyH.nil
          go_simp; refine hK.out _ _ (HSL.out _) (fun hHeld => ?_)
          clear hK K
          try simp only [Act.put, List.setIfInBounds_toArray, List.set_cons_zero, List.set_cons_succ]
          refine wpAnyH_ready (rs := [20]) (by kernel_rfl) (by simp) ?_
          refine AllReadyH.cons (o := { dst := some 39, op := Op.call { callee := Callee.builtin Builtin.append, args := #[Operand.tmp 24, Operand.tmp 38], argTypes := #[30, 30] }, type := 30, pos := "ref.go:95", after := #[{ on := 5, ground := Ground.data }, { on := 19, ground := Ground.data }], guard := none }) rfl (fun K hK => ?_) AllReadyH.nil
          (refine step_app ETold rfl (.tmp 24) (.tmp 38) rfl base (.slice pv gl cv) gl (X3.gs.flatMap Td.cells) rfl (HP7.out.alloc _) _ 1 1 (Td.cells ⟨v, file, line⟩) rfl rfl (row_newAt _ _ _ _ rfl) (td_ones _) (by unfold maxLen; omega) (by omega) (by simp; omega) ?_); intro vp' w8 ho8 hg8 hs8; obtain ⟨p8, c8, rfl, -⟩ := own_shape ho8; have HO8 := hid ho8; have HG8 := hid hg8; clear ho8 hg8 hs8; obtain ⟨hh8, hm8⟩ := HK8.out _ _ HG8.out; have HH8 := hid hh8; have zf2 := frozen_of_row _ _ 2 _ _ hm8; have z2 := cell_of_row _ _ 2 _ _ _ hm8; clear hh8 hm8; refine hK.out _ _ HH8.out (fun hHeld => ?_)
          clear hK K
          try simp only [Act.put, List.setIfInBounds_toArray, List.set_cons_zero, List.set_cons_succ]
          refine wpAnyH_take (i := 21) (oi := { dst := some 40, op := Op.nilCheck (Operand.tmp 19), type := 0, pos := "ref.go:95", after := #[{ on := 0, ground := Ground.data }, { on := 0, ground := Ground.phase }, { on := 1, ground := Ground.phase }, { on := 2, ground := Ground.phase }, { on := 3, ground := Ground.phase }, { on := 4, ground := Ground.phase }, { on := 5, ground := Ground.phase }, { on := 6, ground := Ground.phase }, { on := 7, ground := Ground.phase }, { on := 8, ground := Ground.phase }, { on := 9, ground := Ground.phase }, { on := 10, ground := Ground.phase }, { on := 11, ground := Ground.phase }, { on := 12, ground := Ground.phase }, { on := 13, ground := Ground.phase }, { on := 14, ground := Ground.phase }, { on := 15, ground := Ground.phase }, { on := 16, ground := Ground.phase }, { on := 17, ground := Ground.phase }, { on := 18, ground := Ground.phase }, { on := 19, ground := Ground.phase }, { on := 20, ground := Ground.phase }], guard := none }) (v := ?pbav21) rfl (by kernel_rfl) (by kernel_rfl) (by kernel_rfl) (fun _ _ _ h => h) (Or.inl ⟨by rfl, ?pbah21⟩) (by assumption) ?pbar21
          case pbah21 => ((intro w hSw; (try dsimp only at hSw); go_simp); try with_reducible rfl)
          try simp only [Act.put, List.setIfInBounds_toArray, List.set_cons_zero, List.set_cons_succ]
          refine wpAnyH_take (i := 22) (oi := { dst := some 41, op := Op.fieldAddr 85 (Operand.tmp 40) 0, type := 0, pos := "ref.go:95", after := #[{ on := 21, ground := Ground.data }, { on := 0, ground := Ground.phase }, { on := 1, ground := Ground.phase }, { on := 2, ground := Ground.phase }, { on := 3, ground := Ground.phase }, { on := 4, ground := Ground.phase }, { on := 5, ground := Ground.phase }, { on := 6, ground := Ground.phase }, { on := 7, ground := Ground.phase }, { on := 8, ground := Ground.phase }, { on := 9, ground := Ground.phase }, { on := 10, ground := Ground.phase }, { on := 11, ground := Ground.phase }, { on := 12, ground := Ground.phase }, { on := 13, ground := Ground.phase }, { on := 14, ground := Ground.phase }, { on := 15, ground := Ground.phase }, { on := 16, ground := Ground.phase }, { on := 17, ground := Ground.phase }, { on := 18, ground := Ground.phase }, { on := 19, ground := Ground.phase }, { on := 20, ground := Ground.phase }], guard := none }) (v := ?pbav22) rfl (by kernel_rfl) (by kernel_rfl) (by kernel_rfl) (fun _ _ _ h => h) (Or.inl ⟨by rfl, ?pbah22⟩) (by assumption) ?pbar22
          case pbah22 => ((intro w hSw; (try dsimp only at hSw); go_simp); try with_reducible rfl)
          try simp only [Act.put, List.setIfInBounds_toArray, List.set_cons_zero, List.set_cons_succ]
          refine wpAnyH_take (i := 23) (oi := { dst := some 42, op := Op.fieldAddr 32 (Operand.tmp 41) 2, type := 0, pos := "ref.go:95", after := #[{ on := 22, ground := Ground.data }, { on := 0, ground := Ground.phase }, { on := 1, ground := Ground.phase }, { on := 2, ground := Ground.phase }, { on := 3, ground := Ground.phase }, { on := 4, ground := Ground.phase }, { on := 5, ground := Ground.phase }, { on := 6, ground := Ground.phase }, { on := 7, ground := Ground.phase }, { on := 8, ground := Ground.phase }, { on := 9, ground := Ground.phase }, { on := 10, ground := Ground.phase }, { on := 11, ground := Ground.phase }, { on := 12, ground := Ground.phase }, { on := 13, ground := Ground.phase }, { on := 14, ground := Ground.phase }, { on := 15, ground := Ground.phase }, { on := 16, ground := Ground.phase }, { on := 17, ground := Ground.phase }, { on := 18, ground := Ground.phase }, { on := 19, ground := Ground.phase }, { on := 20, ground := Ground.phase }], guard := none }) (v := ?pbav23) rfl (by kernel_rfl) (by kernel_rfl) (by kernel_rfl) (fun _ _ _ h => h) (Or.inl ⟨by rfl, ?pbah23⟩) (by assumption) ?pbar23
          case pbah23 => ((intro w hSw; (try dsimp only at hSw); go_simp); try with_reducible rfl)
          try simp only [Act.put, List.setIfInBounds_toArray, List.set_cons_zero, List.set_cons_succ]
          refine wpAnyH_ready (rs := [24]) (by kernel_rfl) (by simp) ?_
          refine AllReadyH.cons (o := { dst := none, op := Op.store 30 (Operand.tmp 42) (Operand.tmp 39), type := 0, pos := "ref.go:95", after := #[{ on := 23, ground := Ground.data }, { on := 20, ground := Ground.data }, { on := 20, ground := Ground.chain }, { on := 0, ground := Ground.phase }, { on := 1, ground := Ground.phase }, { on := 2, ground := Ground.phase }, { on := 3, ground := Ground.phase }, { on := 4, ground := Ground.phase }, { on := 5, ground := Ground.phase }, { on := 6, ground := Ground.phase }, { on := 7, ground := Ground.phase }, { on := 8, ground := Ground.phase }, { on := 9, ground := Ground.phase }, { on := 10, ground := Ground.phase }, { on := 11, ground := Ground.phase }, { on := 12, ground := Ground.phase }, { on := 13, ground := Ground.phase }, { on := 14, ground := Ground.phase }, { on := 15, ground := Ground.phase }, { on := 16, ground := Ground.phase }, { on := 17, ground := Ground.phase }, { on := 18, ground := Ground.phase }, { on := 19, ground := Ground.phase }, { on := 20, ground := Ground.phase }], guard := none }) rfl (fun K hK => ?_) AllReadyH.nil
          go_simp; refine hK.out _ _ (HBS.out _ _ HH8.out) (fun hHeld => ?_)
          clear hK K
          try simp only [Act.put, List.setIfInBounds_toArray, List.set_cons_zero, List.set_cons_succ]
          refine wpAnyH_done (by kernel_rfl) ?_ _
          go_wp2_with fail
          have hfin := H3.out.finTold ⟨v, file, line⟩ (by rw [← HGN.out]; exact HO8.out) (by rw [HVC.out]; exact HG8.out)
          refine ⟨⟨k + 1, by omega, by go_num, _, hfin.1, by rw [HST.out, ← HP3.out]; unfold FP.told1; rw [if_neg HLG.out]; rfl, ?_, HT3.out.trans hfin.2⟩, by simp [intOf]; omega⟩
          have q := HS3.out
          exact ⟨Nat.le_succ_of_le q.ps, Nat.le_succ_of_le q.ms, by show (X3.gs ++ [_]).length ≤ _; rw [List.length_append, ← HGN.out]; simp; omega, Nat.le_succ_of_le q.fs, fun y hy => Nat.le_succ_of_le (q.pcs y hy)⟩
        refine AllReadyH.cons (o := { dst := some 38, op := Op.buildSlice 30 1 #[(0, Operand.tmp 37)], type := 30, pos := "ref.go:95", after := #[{ on := 18, ground := Ground.data }], guard := none }) rfl (fun K hK => ?_) AllReadyH.nil
        go_simp; refine hK.out _ _ (HSL.out _) (fun hHeld => ?_)
        clear hK K
        try simp only [Act.put, List.setIfInBounds_toArray, List.set_cons_zero, List.set_cons_succ]
        refine wpAnyH_ready (rs := [5]) (by kernel_rfl) (by simp) ?_
        refine AllReadyH.cons (o := { dst := some 24, op := Op.load 30 (Operand.tmp 23), type := 30, pos := "ref.go:95", after := #[{ on := 4, ground := Ground.data }], guard := none }) rfl (fun K hK => ?_) AllReadyH.nil
        go_simp; refine hK.out _ _ (by first | exact HH0.out | exact HSL.out _) (fun hHeld => ?_)
        clear hK K
        try simp only [Act.put, List.setIfInBounds_toArray, List.set_cons_zero, List.set_cons_succ]
        refine wpAnyH_ready (rs := [20]) (by kernel_rfl) (by simp) ?_
        refine AllReadyH.cons (o := { dst := some 39, op := Op.call { callee := Callee.builtin Builtin.append, args := #[Operand.tmp 24, Operand.tmp 38], argTypes := #[30, 30] }, type := 30, pos := "ref.go:95", after := #[{ on := 5, ground := Ground.data }, { on := 19, ground := Ground.data }], guard := none }) rfl (fun K hK => ?_) AllReadyH.nil
        (refine step_app ETold rfl (.tmp 24) (.tmp 38) rfl base (.slice pv gl cv) gl (X3.gs.flatMap Td.cells) rfl (HP7.out.alloc _) _ 1 1 (Td.cells ⟨v, file, line⟩) rfl rfl (row_newAt _ _ _ _ rfl) (td_ones _) (by unfold maxLen; omega) (by omega) (by simp; omega) ?_); intro vp' w8 ho8 hg8 hs8; obtain ⟨p8, c8, rfl, -⟩ := own_shape ho8; have HO8 := hid ho8; have HG8 := hid hg8; clear ho8 hg8 hs8; obtain ⟨hh8, hm8⟩ := HK8.out _ _ HG8.out; have HH8 := hid hh8; have zf2 := frozen_of_row _ _ 2 _ _ hm8; have z2 := cell_of_row _ _ 2 _ _ _ hm8; clear hh8 hm8; refine hK.out _ _ HH8.out (fun hHeld => ?_)
        clear hK K
        try simp only [Act.put, List.setIfInBounds_toArray, List.set_cons_zero, List.set_cons_succ]
        refine wpAnyH_take (i := 21) (oi := { dst := some 40, op := Op.nilCheck (Operand.tmp 19), type := 0, pos := "ref.go:95", after := #[{ on := 0, ground := Ground.data }, { on := 0, ground := Ground.phase }, { on := 1, ground := Ground.phase }, { on := 2, ground := Ground.phase }, { on := 3, ground := Ground.phase }, { on := 4, ground := Ground.phase }, { on := 5, ground := Ground.phase }, { on := 6, ground := Ground.phase }, { on := 7, ground := Ground.phase }, { on := 8, ground := Ground.phase }, { on := 9, ground := Ground.phase }, { on := 10, ground := Ground.phase }, { on := 11, ground := Ground.phase }, { on := 12, ground := Ground.phase }, { on := 13, ground := Ground.phase }, { on := 14, ground := Ground.phase }, { on := 15, ground := Ground.phase }, { on := 16, ground := Ground.phase }, { on := 17, ground := Ground.phase }, { on := 18, ground := Ground.phase }, { on := 19, ground := Ground.phase }, { on := 20, ground := Ground.phase }], guard := none }) (v := ?pbbv21) rfl (by kernel_rfl) (by kernel_rfl) (by kernel_rfl) (fun _ _ _ h => h) (Or.inl ⟨by rfl, ?pbbh21⟩) (by assumption) ?pbbr21
        case pbbh21 => ((intro w hSw; (try dsimp only at hSw); go_simp); try with_reducible rfl)
        try simp only [Act.put, List.setIfInBounds_toArray, List.set_cons_zero, List.set_cons_succ]
        refine wpAnyH_take (i := 22) (oi := { dst := some 41, op := Op.fieldAddr 85 (Operand.tmp 40) 0, type := 0, pos := "ref.go:95", after := #[{ on := 21, ground := Ground.data }, { on := 0, ground := Ground.phase }, { on := 1, ground := Ground.phase }, { on := 2, ground := Ground.phase }, { on := 3, ground := Ground.phase }, { on := 4, ground := Ground.phase }, { on := 5, ground := Ground.phase }, { on := 6, ground := Ground.phase }, { on := 7, ground := Ground.phase }, { on := 8, ground := Ground.phase }, { on := 9, ground := Ground.phase }, { on := 10, ground := Ground.phase }, { on := 11, ground := Ground.phase }, { on := 12, ground := Ground.phase }, { on := 13, ground := Ground.phase }, { on := 14, ground := Ground.phase }, { on := 15, ground := Ground.phase }, { on := 16, ground := Ground.phase }, { on := 17, ground := Ground.phase }, { on := 18, ground := Ground.phase }, { on := 19, ground := Ground.phase }, { on := 20, ground := Ground.phase }], guard := none }) (v := ?pbbv22) rfl (by kernel_rfl) (by kernel_rfl) (by kernel_rfl) (fun _ _ _ h => h) (Or.inl ⟨by rfl, ?pbbh22⟩) (by assumption) ?pbbr22
        case pbbh22 => ((intro w hSw; (try dsimp only at hSw); go_simp); try with_reducible rfl)
        try simp only [Act.put, List.setIfInBounds_toArray, List.set_cons_zero, List.set_cons_succ]
        refine wpAnyH_take (i := 23) (oi := { dst := some 42, op := Op.fieldAddr 32 (Operand.tmp 41) 2, type := 0, pos := "ref.go:95", after := #[{ on := 22, ground := Ground.data }, { on := 0, ground := Ground.phase }, { on := 1, ground := Ground.phase }, { on := 2, ground := Ground.phase }, { on := 3, ground := Ground.phase }, { on := 4, ground := Ground.phase }, { on := 5, ground := Ground.phase }, { on := 6, ground := Ground.phase }, { on := 7, ground := Ground.phase }, { on := 8, ground := Ground.phase }, { on := 9, ground := Ground.phase }, { on := 10, ground := Ground.phase }, { on := 11, ground := Ground.phase }, { on := 12, ground := Ground.phase }, { on := 13, ground := Ground.phase }, { on := 14, ground := Ground.phase }, { on := 15, ground := Ground.phase }, { on := 16, ground := Ground.phase }, { on := 17, ground := Ground.phase }, { on := 18, ground := Ground.phase }, { on := 19, ground := Ground.phase }, { on := 20, ground := Ground.phase }], guard := none }) (v := ?pbbv23) rfl (by kernel_rfl) (by kernel_rfl) (by kernel_rfl) (fun _ _ _ h => h) (Or.inl ⟨by rfl, ?pbbh23⟩) (by assumption) ?pbbr23
        case pbbh23 => ((intro w hSw; (try dsimp only at hSw); go_simp); try with_reducible rfl)
        try simp only [Act.put, List.setIfInBounds_toArray, List.set_cons_zero, List.set_cons_succ]
        refine wpAnyH_ready (rs := [24]) (by kernel_rfl) (by simp) ?_
        refine AllReadyH.cons (o := { dst := none, op := Op.store 30 (Operand.tmp 42) (Operand.tmp 39), type := 0, pos := "ref.go:95", after := #[{ on := 23, ground := Ground.data }, { on := 20, ground := Ground.data }, { on := 20, ground := Ground.chain }, { on := 0, ground := Ground.phase }, { on := 1, ground := Ground.phase }, { on := 2, ground := Ground.phase }, { on := 3, ground := Ground.phase }, { on := 4, ground := Ground.phase }, { on := 5, ground := Ground.phase }, { on := 6, ground := Ground.phase }, { on := 7, ground := Ground.phase }, { on := 8, ground := Ground.phase }, { on := 9, ground := Ground.phase }, { on := 10, ground := Ground.phase }, { on := 11, ground := Ground.phase }, { on := 12, ground := Ground.phase }, { on := 13, ground := Ground.phase }, { on := 14, ground := Ground.phase }, { on := 15, ground := Ground.phase }, { on := 16, ground := Ground.phase }, { on := 17, ground := Ground.phase }, { on := 18, ground := Ground.phase }, { on := 19, ground := Ground.phase }, { on := 20, ground := Ground.phase }], guard := none }) rfl (fun K hK => ?_) AllReadyH.nil
        go_simp; refine hK.out _ _ (HBS.out _ _ HH8.out) (fun hHeld => ?_)
        clear hK K
        try simp only [Act.put, List.setIfInBounds_toArray, List.set_cons_zero, List.set_cons_succ]
        refine wpAnyH_done (by kernel_rfl) ?_ _
        go_wp2_with fail
        have hfin := H3.out.finTold ⟨v, file, line⟩ (by rw [← HGN.out]; exact HO8.out) (by rw [HVC.out]; exact HG8.out)
        refine ⟨⟨k + 1, by omega, by go_num, _, hfin.1, by rw [HST.out, ← HP3.out]; unfold FP.told1; rw [if_neg HLG.out]; rfl, ?_, HT3.out.trans hfin.2⟩, by simp [intOf]; omega⟩
        have q := HS3.out
        exact ⟨Nat.le_succ_of_le q.ps, Nat.le_succ_of_le q.ms, by show (X3.gs ++ [_]).length ≤ _; rw [List.length_append, ← HGN.out]; simp; omega, Nat.le_succ_of_le q.fs, fun y hy => Nat.le_succ_of_le (q.pcs y hy)⟩
    · have hke : k = len := by omega
      subst hke
      go_wp2_with fail
      go_end0
      refine ⟨rfl, HT3.out, X3, H3.out, ?_, HS3.out⟩
      rw [HP3.out, HLEN.out, List.take_length]
end Go.Proofs.Ythlingholhjcnaa
namespace Go.Proofs.Ythlingholhjcnaa
open Go.RowKit
variable {W W' w w' : World} {base m : Nat}

set_option maxRecDepth 20000 in
set_option maxHeartbeats 4000000 in
theorem rfirst_any (s : StR) (hv : SlOk W Vv.cells 40 s.values) (hn : SlOk W (fun s : ByteArray => [Value.string s]) 16 s.names) :
    Calls Try.prog 43 #[.agg s.cells.toArray] W fun e w' => e = .returned (.tuple #[.agg (firstV s.values.l).cells.toArray, .string (firstS s.names.l)]) ∧ Below W.heap.size W w' := by
  obtain ⟨W1, hW1⟩ : ∃ W1, W1 = W.alloc (.cells s.cells.toArray 57) := ⟨_, rfl⟩
  have hx1 : W1.heap[W.heap.size]? = some (.cells s.cells.toArray 57 (0, 0)) := by rw [hW1]; exact heap_alloc_new _ _
  have hb1 : Below W.heap.size W W1 := by rw [hW1]; exact alloc_below _ _
  have hz1 : W1.heap.size = W.heap.size + 1 := by rw [hW1]; simp
  obtain ⟨-, -, -, -, y4, -, y6, -⟩ := st_cells hx1
  have HB1 := hid hb1
  have hv1 := hv.below hb1
  have hn1 := hn.below hb1
  have hcv := hv.cap
  have hcn := hn.cap
  have hlt : W.heap.size < W1.heap.size := by omega
  rcases hV : s.values with ⟨vp, vc, vl⟩
  rcases hN : s.names with ⟨np, nc, nl⟩
  replace y4 : W1.cell? ⟨W.heap.size, 4, none⟩ = some (.slice np nl.length nc) := by rw [y4, hN]; rfl
  replace y6 : W1.cell? ⟨W.heap.size, 6, none⟩ = some (.slice vp vl.length vc) := by rw [y6, hV]; rfl
  rw [hV] at hv1 hcv
  rw [hN] at hn1 hcn
  have HW1 := hid hW1
  clear hW1 hx1 hb1 hv hn hV hN
  dsimp only at hcv hcn ⊢
  obtain ⟨rv, hrv⟩ : ∃ rv, rv = firstV vl := ⟨_, rfl⟩
  obtain ⟨rs, hrs⟩ : ∃ rs, rs = firstS nl := ⟨_, rfl⟩
  have HRV := hid hrv
  have HRS := hid hrs
  rw [← hrv, ← hrs]
  -- the value's cells, where there are any
  have hvz : (vl = [] ∧ rv = v00) ∨ (0 < vl.length ∧ ∃ b o, vp = some ⟨b, o, none⟩ ∧ b < W1.heap.size ∧ W1.cell? ⟨b, o, none⟩ = some (.int .i64 rv.add) ∧ W1.cell? ⟨b, o + 1, none⟩ = some (.string rv.plus) ∧ W1.cell? ⟨b, o + 2, none⟩ = some (.string rv.minus)) := by
    cases vl with
    | nil => exact .inl ⟨rfl, hrv⟩
    | cons v vl =>
      refine .inr ⟨by simp, ?_⟩
      obtain ⟨b, o, e, hbl, _⟩ := hv1.row.at (by simp [Vv.cells])
      have e : vp = some ⟨b, o, none⟩ := e
      subst e
      obtain ⟨v0, v1, v2⟩ := vv_cells hv1.row 0 (by simp)
      simp only [Nat.zero_mul, Nat.add_zero, List.getElem_cons_zero] at v0 v1 v2
      rw [hrv]
      exact ⟨b, o, rfl, hbl, v0, v1, v2⟩
  have hnz : (nl = [] ∧ rs = ⟨#[]⟩) ∨ (0 < nl.length ∧ ∃ b o, np = some ⟨b, o, none⟩ ∧ b < W1.heap.size ∧ W1.cell? ⟨b, o, none⟩ = some (.string rs)) := by
    cases nl with
    | nil => exact .inl ⟨rfl, hrs⟩
    | cons a nl =>
      refine .inr ⟨by simp, ?_⟩
      obtain ⟨b, o, e, hbl, hc⟩ := hn1.row.at (by simp)
      have e : np = some ⟨b, o, none⟩ := e
      subst e
      have h0 : W1.cell? ⟨b, o, none⟩ = some (.string a) := hc 0 (by simp)
      rw [hrs]
      exact ⟨b, o, rfl, hbl, h0⟩
  clear hrv hrs hv1 hn1
  rcases hvz with ⟨rfl, rfl⟩ | ⟨hvp, bv, ov, rfl, hbv, v0, v1, v2⟩
  · rcases hnz with ⟨rfl, rfl⟩ | ⟨hnp, bn, on, rfl, hbn, n0⟩
    · go_enter Try.func43, Try.ntmps43
      go_upto_region 1 with (fail)
      rw [← HW1.out]
      go_wp2
      refine bodyPost_ret (v := .tuple #[.agg (Vv.cells v00).toArray, .string ⟨#[]⟩]) (by simp [results, Try.results43, go_sem, Vv.cells, v00, hz1]) rfl ?_
      exact ⟨rfl, by repeat' (first | exact HB1.out | refine Below.setCell ?_ (by have := HB1.out.size; first | omega | (simp; omega)) _ | refine Below.alloc ?_ (by have := HB1.out.size; first | omega | (simp; omega)) _)⟩
    · have hnI : (0 : Int) < nl.length := by omega
      have hbn1 : bn < W.heap.size + 1 := by omega
      have hbn2 : bn < W.heap.size + 1 + 1 := by omega
      go_enter Try.func43, Try.ntmps43
      go_upto_region 1 with (fail)
      rw [← HW1.out]
      go_wp2
      refine bodyPost_ret (v := .tuple #[.agg (Vv.cells v00).toArray, .string rs]) (by simp [results, Try.results43, go_sem, Vv.cells, v00, hz1]) rfl ?_
      exact ⟨rfl, by repeat' (first | exact HB1.out | refine Below.setCell ?_ (by have := HB1.out.size; first | omega | (simp; omega)) _ | refine Below.alloc ?_ (by have := HB1.out.size; first | omega | (simp; omega)) _)⟩
  · have hvI : (0 : Int) < vl.length := by omega
    have hbv1 : bv < W.heap.size + 1 := by omega
    have hbv2 : bv < W.heap.size + 1 + 1 := by omega
    rcases hnz with ⟨rfl, rfl⟩ | ⟨hnp, bn, on, rfl, hbn, n0⟩
    · go_enter Try.func43, Try.ntmps43
      go_upto_region 1 with (fail)
      rw [← HW1.out]
      go_wp2
      refine bodyPost_ret (v := .tuple #[.agg (Vv.cells rv).toArray, .string ⟨#[]⟩]) (by simp [results, Try.results43, go_sem, Vv.cells, v00, hz1]) rfl ?_
      exact ⟨rfl, by repeat' (first | exact HB1.out | refine Below.setCell ?_ (by have := HB1.out.size; first | omega | (simp; omega)) _ | refine Below.alloc ?_ (by have := HB1.out.size; first | omega | (simp; omega)) _)⟩
    · have hnI : (0 : Int) < nl.length := by omega
      have hbn1 : bn < W.heap.size + 1 := by omega
      have hbn2 : bn < W.heap.size + 1 + 1 := by omega
      go_enter Try.func43, Try.ntmps43
      go_upto_region 1 with (fail)
      rw [← HW1.out]
      go_wp2
      refine bodyPost_ret (v := .tuple #[.agg (Vv.cells rv).toArray, .string rs]) (by simp [results, Try.results43, go_sem, Vv.cells, v00, hz1]) rfl ?_
      exact ⟨rfl, by repeat' (first | exact HB1.out | refine Below.setCell ?_ (by have := HB1.out.size; first | omega | (simp; omega)) _ | refine Below.alloc ?_ (by have := HB1.out.size; first | omega | (simp; omega)) _)⟩
end Go.Proofs.Ythlingholhjcnaa
namespace Go.Proofs.Ythlingholhjcnaa
open Go.RowKit
variable {W W' w w' : World} {base m : Nat} {X X' : FV} {file line : Int} {name : ByteArray}

def RStmtT (W : World) (base m : Nat) (file line : Int) (R : FP × ByteArray) (n : Nat) (e : Ending) (w' : World) : Prop :=
  e = .returned (.tuple #[]) ∧ Trn base W w' ∧ ∃ X', RkN w' base m X' file line R.2 ∧ X'.pl = R.1 ∧ Sm X' n
theorem RStmtT.of_put {R : FP × ByteArray} {n k : Nat} {W3 : World} {e : Ending} {S : FP} (ht : Trn base W W3) (h : RPutT W3 base m file line name S n e w') (hR : R = (S, name)) (hk : n ≤ k) : RStmtT W base m file line R k e w' := by
  obtain ⟨h1, h2, X', h3, h4, h5⟩ := h
  subst hR
  exact ⟨h1, ht.trans h2, X', h3, h4, h5.mono hk⟩
theorem st_bat {b : Nat} {s : StR} (h : StBx b s W) : W.cell? ⟨b, 0, none⟩ = some (.slice s.labels.p s.labels.l.length s.labels.c) ∧ W.cell? ⟨b, 1, none⟩ = some (.int .i64 s.kind) ∧ W.cell? ⟨b, 2, none⟩ = some (.string s.l.name) ∧ W.cell? ⟨b, 3, none⟩ = some (.slice s.l.opers.p s.l.opers.l.length s.l.opers.c) ∧ W.cell? ⟨b, 4, none⟩ = some (.slice s.names.p s.names.l.length s.names.c) ∧ W.cell? ⟨b, 5, none⟩ = some (.int .i64 s.size) ∧ W.cell? ⟨b, 6, none⟩ = some (.slice s.values.p s.values.l.length s.values.c) ∧ W.cell? ⟨b, 7, none⟩ = some (.slice s.bytes.p s.bytes.l.length s.bytes.c) := st_cells h
def ValBx (b : Nat) (v : Vv) (w' : World) : Prop := w'.heap[b]? = some (.cells v.cells.toArray 62 (0, 0))
theorem RkN.rename (h : RkN W base m X file line name) (v : ByteArray) : RkN (W.setCell ⟨m, 6, none⟩ (.string v)) base m X file line v ∧ Trn base W (W.setCell ⟨m, 6, none⟩ (.string v)) := by
  have hl : Lies base (fun y => y ≠ 85 + 1) W (W.setCell ⟨m, 6, none⟩ (.string v)) := Lies.grown (grown_set _ _ _) (fun g hg => by cases hg; exact ⟨h.tagM, h.ge⟩) (fun hn => hn rfl) h.hz
  refine ⟨⟨heap_setCell_same _ _ 6 _ _ _ h.head, h.is.lies (hl.mono ?_), h.ge⟩, TrnP.storeR (by unfold isPT; decide) h (TrnP.refl _ _) h.tagM 6 _⟩
  rintro y ((rfl | rfl | rfl | rfl | rfl) | (rfl | rfl)) <;> decide
theorem RkN.reline (h : RkN W base m X file line name) (v : Int) : RkN (W.setCell ⟨m, 5, none⟩ (.int .i64 v)) base m X file v name ∧ Trn base W (W.setCell ⟨m, 5, none⟩ (.int .i64 v)) := by
  have hl : Lies base (fun y => y ≠ 85 + 1) W (W.setCell ⟨m, 5, none⟩ (.int .i64 v)) := Lies.grown (grown_set _ _ _) (fun g hg => by cases hg; exact ⟨h.tagM, h.ge⟩) (fun hn => hn rfl) h.hz
  refine ⟨⟨heap_setCell_same _ _ 5 _ _ _ h.head, h.is.lies (hl.mono ?_), h.ge⟩, TrnP.storeR (by unfold isPT; decide) h (TrnP.refl _ _) h.tagM 5 _⟩
  rintro y ((rfl | rfl | rfl | rfl | rfl) | (rfl | rfl)) <;> decide
set_option maxRecDepth 20000 in
set_option maxHeartbeats 4000000 in
theorem rrow_align (h : RkN W base m X file line name) {n : Nat} (hn : Sm X n) (s : StR) (hn2 : n + s.cost ≤ 4000000) (hs : s.ok W) (hlow : s.low base) (hk : s.kind = 4) :
    Calls Try.prog 25 #[.pointer (some ⟨m, 0, none⟩), .agg s.cells.toArray] W (RStmtT W base m file line (X.pl.stmt file line name s) (n + s.cost)) := by
  obtain ⟨W1, hW1⟩ : ∃ W1, StB W W1 s := ⟨_, stb W s⟩
  obtain ⟨y0, y1, y2, y3, y4, y5, y6, y7⟩ := st_bat (b := W.heap.size) (s := s) hW1.blk
  have HW := hid hW1
  have HC := hid h
  have HN := hid hn
  have HCOST := hid hn2
  have h1 := h.below hW1.b
  have H1 := hid h1
  have HS := hid (hs.below hW1.b)
  have HLO := hid hlow
  have HFI : Hid (Calls Try.prog 43 #[.agg #[.slice s.labels.p s.labels.l.length s.labels.c, .int .i64 s.kind, .string s.l.name, .slice s.l.opers.p s.l.opers.l.length s.l.opers.c, .slice s.names.p s.names.l.length s.names.c, .int .i64 s.size, .slice s.values.p s.values.l.length s.values.c, .slice s.bytes.p s.bytes.l.length s.bytes.c]] W1 fun e w' => e = .returned (.tuple #[.agg #[.int .i64 (firstV s.values.l).add, .string (firstV s.values.l).plus, .string (firstV s.values.l).minus], .string (firstS s.names.l)]) ∧ Below W1.heap.size W1 w') := rfirst_any s (hs.below hW1.b).values.1 (hs.below hW1.b).names.1
  obtain ⟨R, hR⟩ : ∃ R, R = X.pl.stmt file line name s := ⟨_, rfl⟩
  have HR : Hid (R = (X.pl.put file line name { pc0 with kind := 5, align := (firstV s.values.l).add } true, name)) := by unfold Hid; rw [hR]; unfold FP.stmt; rw [if_neg (by omega), if_pos hk]
  have HK := hid hk
  have HCS : Hid (1 ≤ s.cost ∧ 1 + s.values.l.length ≤ s.cost ∧ 1 + s.names.l.length ≤ s.cost) := by unfold Hid StR.cost; omega
  have HPUT : Hid (∀ (w3 : World) (al : Int), Below W1.heap.size W1 w3 → 
      Calls Try.prog 44 #[.pointer (some ⟨m, 0, none⟩), .agg #[.int .i64 5, .int .i64 0, .int .i64 0, .string ⟨#[]⟩, .slice none 0 0, .int .i64 0, .string ⟨#[]⟩, .string ⟨#[]⟩, .int .i64 0, .slice none 0 0, .int .i64 al], .bool false] w3
        (RPutT w3 base m file line name (X.pl.put file line name { pc0 with kind := 5, align := al } (!false)) (n + 1))) := fun w3 al hb =>
    rput_any (H1.out.below hb) HN.out (by have := HCOST.out; omega) ⟨5, 0, 0, ⟨⟨#[]⟩, ⟨none, 0, []⟩⟩, v00, 0, ⟨none, 0, []⟩, al⟩ (PcOk.nil _ _ _ _ _ _ _ _ _) _
  obtain ⟨fv, hfv⟩ : ∃ fv, fv = firstV s.values.l := ⟨_, rfl⟩
  obtain ⟨fs, hfs⟩ : ∃ fs, fs = firstS s.names.l := ⟨_, rfl⟩
  rw [← hfv, ← hfs] at HFI
  have HFV := hid (And.intro hfv hfs)
  rw [← hR]
  clear h hn hW1 hs h1 hR hk hlow hn2 hfv hfs
  go_enter Try.func25, Try.ntmps25
  go_upto_region 1 with (fail)
  rw [← HW.out.eq]
  go_upto_region 2 with (go_at_call 43; (with_reducible refine HFI.out.mono ?_); rintro e w2 ⟨rfl, hb2⟩)
  obtain ⟨W3, hW3⟩ : ∃ W3, W3 = w2.alloc (.cells #[.int .i64 fv.add, .string fv.plus, .string fv.minus] 62) := ⟨_, rfl⟩
  have hb3 : Below W1.heap.size W1 W3 := by rw [hW3]; exact hb2.alloc hb2.size _
  have hvb : ValBx w2.heap.size fv W3 := by rw [hW3]; exact heap_alloc_new _ _
  have hsb : StBx W.heap.size s W3 := Below.blk_lt hb3 HW.out.blk
  have HB3 := hid hb3
  have HVB := hid hvb
  have HSB := hid hsb
  have HT3 : Hid (Trn base W W3) := (TrnP.below HW.out.b HC.out.hz).trans (TrnP.below hb3 H1.out.hz)
  have H3 := hid (H1.out.below hb3)
  rw [← hW3]
  clear y0 y1 y2 y3 y4 y5 y6 y7 hb2
  obtain ⟨-, y1, -, -, y4, y5, y6, y7⟩ := st_bat hsb
  rw [HK.out] at y1
  generalize hbv : w2.heap.size = bv at *
  clear hb3 hW3 hbv
  have v0 : W3.cell? ⟨bv, 0, none⟩ = some (.int .i64 fv.add) := cell_of_row _ _ 0 _ _ _ hvb
  clear hvb hsb
  go_wp2_with (go_at_call 44; (with_reducible refine (HPUT.out _ _ HB3.out).mono ?_); rintro e w4 hput; have HPT := hid hput; obtain ⟨rfl, -⟩ := hput)
  go_end0
  exact RStmtT.of_put HT3.out HPT.out (by rw [HR.out, HFV.out.1]; rfl) (by have := HCS.out.1; omega)
set_option maxRecDepth 20000 in
set_option maxHeartbeats 4000000 in
theorem rrow_equ (h : RkN W base m X file line name) {n : Nat} (hn : Sm X n) (s : StR) (hn2 : n + s.cost ≤ 4000000) (hs : s.ok W) (hlow : s.low base) (hk : s.kind = 7) :
    Calls Try.prog 25 #[.pointer (some ⟨m, 0, none⟩), .agg s.cells.toArray] W (RStmtT W base m file line (X.pl.stmt file line name s) (n + s.cost)) := by
  obtain ⟨W1, hW1⟩ : ∃ W1, StB W W1 s := ⟨_, stb W s⟩
  obtain ⟨y0, y1, y2, y3, y4, y5, y6, y7⟩ := st_bat (b := W.heap.size) (s := s) hW1.blk
  have HW := hid hW1
  have HC := hid h
  have HN := hid hn
  have HCOST := hid hn2
  have h1 := h.below hW1.b
  have H1 := hid h1
  have HS := hid (hs.below hW1.b)
  have HLO := hid hlow
  have HFI : Hid (Calls Try.prog 43 #[.agg #[.slice s.labels.p s.labels.l.length s.labels.c, .int .i64 s.kind, .string s.l.name, .slice s.l.opers.p s.l.opers.l.length s.l.opers.c, .slice s.names.p s.names.l.length s.names.c, .int .i64 s.size, .slice s.values.p s.values.l.length s.values.c, .slice s.bytes.p s.bytes.l.length s.bytes.c]] W1 fun e w' => e = .returned (.tuple #[.agg #[.int .i64 (firstV s.values.l).add, .string (firstV s.values.l).plus, .string (firstV s.values.l).minus], .string (firstS s.names.l)]) ∧ Below W1.heap.size W1 w') := rfirst_any s (hs.below hW1.b).values.1 (hs.below hW1.b).names.1
  obtain ⟨R, hR⟩ : ∃ R, R = X.pl.stmt file line name s := ⟨_, rfl⟩
  have HR : Hid (R = (X.pl.mark file line name (firstS s.names.l) true (firstV s.values.l), name)) := by unfold Hid; rw [hR]; unfold FP.stmt; rw [if_neg (by omega), if_neg (by omega), if_neg (by omega), if_neg (by omega), if_neg (by omega), if_pos hk]
  have HK := hid hk
  have HCS : Hid (1 ≤ s.cost ∧ 1 + s.values.l.length ≤ s.cost ∧ 1 + s.names.l.length ≤ s.cost) := by unfold Hid StR.cost; omega
  have HMK : Hid (∀ (w3 : World) (nmx : ByteArray) (v : Vv), Below W1.heap.size W1 w3 →
      Calls Try.prog 24 #[.pointer (some ⟨m, 0, none⟩), .string nmx, .bool true, .agg #[.int .i64 v.add, .string v.plus, .string v.minus]] w3
        (RPutT w3 base m file line name (X.pl.mark file line name nmx true v) (n + 1))) := fun w3 nmx v hb => rmark_any (H1.out.below hb) HN.out (by have := HCOST.out; omega) nmx true v
  obtain ⟨fv, hfv⟩ : ∃ fv, fv = firstV s.values.l := ⟨_, rfl⟩
  obtain ⟨fs, hfs⟩ : ∃ fs, fs = firstS s.names.l := ⟨_, rfl⟩
  rw [← hfv, ← hfs] at HFI
  have HFV := hid (And.intro hfv hfs)
  rw [← hR]
  clear h hn hW1 hs h1 hR hk hlow hn2 hfv hfs
  go_enter Try.func25, Try.ntmps25
  go_upto_region 1 with (fail)
  rw [← HW.out.eq]
  go_upto_region 2 with (go_at_call 43; (with_reducible refine HFI.out.mono ?_); rintro e w2 ⟨rfl, hb2⟩)
  obtain ⟨W3, hW3⟩ : ∃ W3, W3 = w2.alloc (.cells #[.int .i64 fv.add, .string fv.plus, .string fv.minus] 62) := ⟨_, rfl⟩
  have hb3 : Below W1.heap.size W1 W3 := by rw [hW3]; exact hb2.alloc hb2.size _
  have hvb : ValBx w2.heap.size fv W3 := by rw [hW3]; exact heap_alloc_new _ _
  have hsb : StBx W.heap.size s W3 := Below.blk_lt hb3 HW.out.blk
  have HB3 := hid hb3
  have HVB := hid hvb
  have HSB := hid hsb
  have HT3 : Hid (Trn base W W3) := (TrnP.below HW.out.b HC.out.hz).trans (TrnP.below hb3 H1.out.hz)
  have H3 := hid (H1.out.below hb3)
  rw [← hW3]
  clear y0 y1 y2 y3 y4 y5 y6 y7 hb2
  obtain ⟨-, y1, -, -, y4, y5, y6, y7⟩ := st_bat hsb
  rw [HK.out] at y1
  generalize hbv : w2.heap.size = bv at *
  clear hb3 hW3 hbv
  have v0 : W3.cell? ⟨bv, 0, none⟩ = some (.int .i64 fv.add) := cell_of_row _ _ 0 _ _ _ hvb
  have v1 : W3.cell? ⟨bv, 1, none⟩ = some (.string fv.plus) := cell_of_row _ _ 1 _ _ _ hvb
  have v2 : W3.cell? ⟨bv, 2, none⟩ = some (.string fv.minus) := cell_of_row _ _ 2 _ _ _ hvb
  clear hvb hsb
  go_wp2_with (go_at_call 24; (with_reducible refine (HMK.out _ _ _ HB3.out).mono ?_); rintro e w4 hput; have HPT := hid hput; obtain ⟨rfl, -⟩ := hput)
  go_end0
  exact RStmtT.of_put HT3.out HPT.out (by rw [HR.out, HFV.out.1, HFV.out.2]) (by have := HCS.out.1; omega)
set_option maxRecDepth 20000 in
set_option maxHeartbeats 4000000 in
theorem rrow_global (h : RkN W base m X file line name) {n : Nat} (hn : Sm X n) (s : StR) (hn2 : n + s.cost ≤ 4000000) (hs : s.ok W) (hlow : s.low base) (hk : s.kind = 3) :
    Calls Try.prog 25 #[.pointer (some ⟨m, 0, none⟩), .agg s.cells.toArray] W (RStmtT W base m file line (X.pl.stmt file line name s) (n + s.cost)) := by
  obtain ⟨W1, hW1⟩ : ∃ W1, StB W W1 s := ⟨_, stb W s⟩
  obtain ⟨y0, y1, y2, y3, y4, y5, y6, y7⟩ := st_bat (b := W.heap.size) (s := s) hW1.blk
  have HW := hid hW1
  have HC := hid h
  have HN := hid hn
  have HCOST := hid hn2
  have h1 := h.below hW1.b
  have H1 := hid h1
  have HS := hid (hs.below hW1.b)
  have HLO := hid hlow
  have HFI : Hid (Calls Try.prog 43 #[.agg #[.slice s.labels.p s.labels.l.length s.labels.c, .int .i64 s.kind, .string s.l.name, .slice s.l.opers.p s.l.opers.l.length s.l.opers.c, .slice s.names.p s.names.l.length s.names.c, .int .i64 s.size, .slice s.values.p s.values.l.length s.values.c, .slice s.bytes.p s.bytes.l.length s.bytes.c]] W1 fun e w' => e = .returned (.tuple #[.agg #[.int .i64 (firstV s.values.l).add, .string (firstV s.values.l).plus, .string (firstV s.values.l).minus], .string (firstS s.names.l)]) ∧ Below W1.heap.size W1 w') := rfirst_any s (hs.below hW1.b).values.1 (hs.below hW1.b).names.1
  obtain ⟨R, hR⟩ : ∃ R, R = X.pl.stmt file line name s := ⟨_, rfl⟩
  have HR : Hid (R = (X.pl.told file line s.names.l, name)) := by unfold Hid; rw [hR]; unfold FP.stmt; rw [if_neg (by omega), if_neg (by omega), if_neg (by omega), if_neg (by omega), if_neg (by omega), if_neg (by omega), if_pos hk]
  have HK := hid hk
  have HCS : Hid (1 ≤ s.cost ∧ 1 + s.values.l.length ≤ s.cost ∧ 1 + s.names.l.length ≤ s.cost) := by unfold Hid StR.cost; omega
  have HTD : Hid (∀ (w3 : World), Below W1.heap.size W1 w3 →
      Calls Try.prog 45 #[.pointer (some ⟨m, 0, none⟩), .slice s.names.p s.names.l.length s.names.c] w3
        (RPutT w3 base m file line name (X.pl.told file line s.names.l) (n + s.names.l.length))) := fun w3 hb => rtold_any (H1.out.below hb) HN.out s.names (by have := HCOST.out; have := HCS.out.2.2; omega) (HS.out.names.1.below hb) HLO.out.names
  obtain ⟨fv, hfv⟩ : ∃ fv, fv = firstV s.values.l := ⟨_, rfl⟩
  obtain ⟨fs, hfs⟩ : ∃ fs, fs = firstS s.names.l := ⟨_, rfl⟩
  rw [← hfv, ← hfs] at HFI
  have HFV := hid (And.intro hfv hfs)
  rw [← hR]
  clear h hn hW1 hs h1 hR hk hlow hn2 hfv hfs
  go_enter Try.func25, Try.ntmps25
  go_upto_region 1 with (fail)
  rw [← HW.out.eq]
  go_upto_region 2 with (go_at_call 43; (with_reducible refine HFI.out.mono ?_); rintro e w2 ⟨rfl, hb2⟩)
  obtain ⟨W3, hW3⟩ : ∃ W3, W3 = w2.alloc (.cells #[.int .i64 fv.add, .string fv.plus, .string fv.minus] 62) := ⟨_, rfl⟩
  have hb3 : Below W1.heap.size W1 W3 := by rw [hW3]; exact hb2.alloc hb2.size _
  have hvb : ValBx w2.heap.size fv W3 := by rw [hW3]; exact heap_alloc_new _ _
  have hsb : StBx W.heap.size s W3 := Below.blk_lt hb3 HW.out.blk
  have HB3 := hid hb3
  have HVB := hid hvb
  have HSB := hid hsb
  have HT3 : Hid (Trn base W W3) := (TrnP.below HW.out.b HC.out.hz).trans (TrnP.below hb3 H1.out.hz)
  have H3 := hid (H1.out.below hb3)
  rw [← hW3]
  clear y0 y1 y2 y3 y4 y5 y6 y7 hb2
  obtain ⟨-, y1, -, -, y4, y5, y6, y7⟩ := st_bat hsb
  rw [HK.out] at y1
  generalize hbv : w2.heap.size = bv at *
  clear hb3 hW3 hbv
  clear hvb hsb
  go_wp2_with (go_at_call 45; (with_reducible refine (HTD.out _ HB3.out).mono ?_); rintro e w4 hput; have HPT := hid hput; obtain ⟨rfl, -⟩ := hput)
  go_end0
  exact RStmtT.of_put HT3.out HPT.out HR.out (by have := HCS.out.2.2; omega)
set_option maxRecDepth 20000 in
set_option maxHeartbeats 4000000 in
theorem rrow_section (h : RkN W base m X file line name) {n : Nat} (hn : Sm X n) (s : StR) (hn2 : n + s.cost ≤ 4000000) (hs : s.ok W) (hlow : s.low base) (hk : s.kind = 2) :
    Calls Try.prog 25 #[.pointer (some ⟨m, 0, none⟩), .agg s.cells.toArray] W (RStmtT W base m file line (X.pl.stmt file line name s) (n + s.cost)) := by
  obtain ⟨W1, hW1⟩ : ∃ W1, StB W W1 s := ⟨_, stb W s⟩
  obtain ⟨y0, y1, y2, y3, y4, y5, y6, y7⟩ := st_bat (b := W.heap.size) (s := s) hW1.blk
  have HW := hid hW1
  have HC := hid h
  have HN := hid hn
  have HCOST := hid hn2
  have h1 := h.below hW1.b
  have H1 := hid h1
  have HS := hid (hs.below hW1.b)
  have HLO := hid hlow
  have HFI : Hid (Calls Try.prog 43 #[.agg #[.slice s.labels.p s.labels.l.length s.labels.c, .int .i64 s.kind, .string s.l.name, .slice s.l.opers.p s.l.opers.l.length s.l.opers.c, .slice s.names.p s.names.l.length s.names.c, .int .i64 s.size, .slice s.values.p s.values.l.length s.values.c, .slice s.bytes.p s.bytes.l.length s.bytes.c]] W1 fun e w' => e = .returned (.tuple #[.agg #[.int .i64 (firstV s.values.l).add, .string (firstV s.values.l).plus, .string (firstV s.values.l).minus], .string (firstS s.names.l)]) ∧ Below W1.heap.size W1 w') := rfirst_any s (hs.below hW1.b).values.1 (hs.below hW1.b).names.1
  obtain ⟨R, hR⟩ : ∃ R, R = X.pl.stmt file line name s := ⟨_, rfl⟩
  have HR : Hid (R = (if 32 < (firstS s.names.l).size then (X.pl.fault file line 3, name) else ((X.pl.part file line (firstS s.names.l)).1, firstS s.names.l))) := by unfold Hid; rw [hR]; unfold FP.stmt; rw [if_neg (by omega), if_neg (by omega), if_neg (by omega), if_neg (by omega), if_pos hk]
  have HK := hid hk
  have HCS : Hid (1 ≤ s.cost ∧ 1 + s.values.l.length ≤ s.cost ∧ 1 + s.names.l.length ≤ s.cost) := by unfold Hid StR.cost; omega
  obtain ⟨fv, hfv⟩ : ∃ fv, fv = firstV s.values.l := ⟨_, rfl⟩
  obtain ⟨fs, hfs⟩ : ∃ fs, fs = firstS s.names.l := ⟨_, rfl⟩
  rw [← hfv, ← hfs] at HFI
  have HFV := hid (And.intro hfv hfs)
  rw [← hR]
  clear h hn hW1 hs h1 hR hk hlow hn2 hfv hfs
  go_enter Try.func25, Try.ntmps25
  go_upto_region 1 with (fail)
  rw [← HW.out.eq]
  go_upto_region 2 with (go_at_call 43; (with_reducible refine HFI.out.mono ?_); rintro e w2 ⟨rfl, hb2⟩)
  obtain ⟨W3, hW3⟩ : ∃ W3, W3 = w2.alloc (.cells #[.int .i64 fv.add, .string fv.plus, .string fv.minus] 62) := ⟨_, rfl⟩
  have hb3 : Below W1.heap.size W1 W3 := by rw [hW3]; exact hb2.alloc hb2.size _
  have hvb : ValBx w2.heap.size fv W3 := by rw [hW3]; exact heap_alloc_new _ _
  have hsb : StBx W.heap.size s W3 := Below.blk_lt hb3 HW.out.blk
  have HB3 := hid hb3
  have HVB := hid hvb
  have HSB := hid hsb
  have HT3 : Hid (Trn base W W3) := (TrnP.below HW.out.b HC.out.hz).trans (TrnP.below hb3 H1.out.hz)
  have H3 := hid (H1.out.below hb3)
  rw [← hW3]
  clear y0 y1 y2 y3 y4 y5 y6 y7 hb2
  obtain ⟨-, y1, -, -, y4, y5, y6, y7⟩ := st_bat hsb
  rw [HK.out] at y1
  generalize hbv : w2.heap.size = bv at *
  clear hb3 hW3 hbv
  clear hvb hsb
  have HF := hid (rfault_any H3.out (Nat.le_trans HN.out.fs (by have := HCOST.out; omega)) 3)
  obtain ⟨h4, ht4⟩ := H3.out.rename fs
  have HP := hid (rpart_any h4 (Nat.le_trans HN.out.ps (by have := HCOST.out; omega)))
  have HT4 := hid ht4
  have z6 := cell_of_row _ _ 6 _ _ _ H3.out.head
  have zf6 := frozen_of_row _ _ 6 _ _ H3.out.head
  clear h4 ht4
  by_cases hlong : 32 < fs.size
  · have hlI : (32 : Int) < (fs.size : Int) := by omega
    go_wp2_with (go_at_call 41; (with_reducible refine HF.out.mono ?_); rintro e w4 ⟨rfl, ⟨v', h5⟩, ht5⟩; have H5 := hid h5; have HT5 := hid ht5; clear h5 ht5)
    go_end0
    refine ⟨rfl, HT3.out.trans HT5.out, _, by rw [HR.out, ← HFV.out.2, if_pos hlong]; exact H5.out, by rw [HR.out, ← HFV.out.2, if_pos hlong]; rfl, Sm.mono (n := n + 1) ?_ (by have := HCS.out.1; omega)⟩
    have q := HN.out
    exact ⟨Nat.le_succ_of_le q.ps, Nat.le_succ_of_le q.ms, Nat.le_succ_of_le q.gs, by show (X.fs ++ [_]).length ≤ _; rw [List.length_append]; have := q.fs; simp; omega, fun y hy => Nat.le_succ_of_le (q.pcs y hy)⟩
  · have hlI : ¬ (32 : Int) < (fs.size : Int) := by omega
    go_wp2_with (go_at_call 42; (with_reducible refine HP.out.mono ?_); rintro e w4 ⟨X4, i, rfl, hi4, h5, ht5, hp5⟩; have H5 := hid h5; have HT5 := hid ht5; have HP5 := hid hp5; clear h5 ht5 hp5)
    go_end0
    exact ⟨rfl, (HT3.out.trans HT4.out).trans HT5.out.pt, X4, by rw [HR.out, ← HFV.out.2, if_neg hlong]; exact H5.out, by rw [HR.out, ← HFV.out.2, if_neg hlong, HP5.out.plain], (HP5.out.sm HN.out).mono (by have := HCS.out.1; omega)⟩
end Go.Proofs.Ythlingholhjcnaa
namespace Go.Proofs.Ythlingholhjcnaa
open Go.RowKit
variable {W W' w w' : World} {base m : Nat} {X X' : FV} {file line : Int} {name : ByteArray}

/-- The piece that is being made. -/
def pcI (k : Int) (nm : ByteArray) (sp : Option Addr) (sc : Nat) (l : List Oc) : PcR := ⟨k, 0, 0, ⟨nm, ⟨sp, sc, l⟩⟩, v00, 0, ⟨none, 0, []⟩, 0⟩
structure PcMade (W3 : World) (bx : Nat) (k : Int) (nm : ByteArray) (sp : Option Addr) (sc : Nat) (l : List Oc) (wx : World) : Prop where
  b : BxP bx (pcI k nm sp sc l) wx
  o : SlOk wx Oc.cells 120 ⟨sp, sc, l⟩
  t : ∀ a, sp = some a → tagAt wx a.block = some (72 + 1)
  w : Below W3.heap.size W3 wx
  ge : W3.heap.size ≤ bx
theorem pcI_cells {bx : Nat} {k : Int} {nm : ByteArray} {sp : Option Addr} {sc : Nat} {l : List Oc} (h : BxP bx (pcI k nm sp sc l) W) : W.cell? ⟨bx, 0, none⟩ = some (.int .i64 k) ∧ W.cell? ⟨bx, 1, none⟩ = some (.int .i64 0) ∧ W.cell? ⟨bx, 2, none⟩ = some (.int .i64 0) ∧ W.cell? ⟨bx, 3, none⟩ = some (.string nm) ∧ W.cell? ⟨bx, 4, none⟩ = some (.slice sp l.length sc) ∧ W.cell? ⟨bx, 5, none⟩ = some (.int .i64 0) ∧ W.cell? ⟨bx, 6, none⟩ = some (.string ⟨#[]⟩) ∧ W.cell? ⟨bx, 7, none⟩ = some (.string ⟨#[]⟩) ∧ W.cell? ⟨bx, 8, none⟩ = some (.int .i64 0) ∧ W.cell? ⟨bx, 9, none⟩ = some (.slice none 0 0) ∧ W.cell? ⟨bx, 10, none⟩ = some (.int .i64 0) := box_cells h
theorem PcMade.ofA {W3 w8 : World} {nm : ByteArray} {sp : Option Addr} {sc : Nat} {l : List Oc} (ho : SlOk w8 Oc.cells 120 ⟨sp, sc, l⟩) (ht : ∀ a, sp = some a → tagAt w8 a.block = some (72 + 1)) (hb : Below W3.heap.size W3 w8) : PcMade W3 w8.heap.size 1 nm sp sc l (w8.alloc (.cells #[.int .i64 1, .int .i64 0, .int .i64 0, .string nm, .slice sp l.length sc, .int .i64 0, .string ⟨#[]⟩, .string ⟨#[]⟩, .int .i64 0, .slice none 0 0, .int .i64 0] 64)) :=
  ⟨heap_alloc_new _ _, ho.below (alloc_below _ _), fun a ha => tag_blk (ht a ha) ((alloc_below w8 _).block _ (tag_lt (ht a ha))), hb.alloc hb.size _, hb.size⟩
theorem PcMade.drew {W3 w : World} {bx : Nat} {k : Int} {nm : ByteArray} {sp : Option Addr} {sc : Nat} {l : List Oc} (h : PcMade W3 bx k nm sp sc l w) : PcMade W3 bx k nm sp sc l w.drew := ⟨h.b, h.o.below (Below.refl _ _).drew, h.t, h.w.drew, h.ge⟩
theorem set1_other (w : World) (b k : Nat) (v : Value) (q : Nat) (hq : q ≠ b) : (w.setCell ⟨b, k, none⟩ v).heap[q]? = w.heap[q]? := heap_setCell_other _ _ _ _ hq
theorem sets_other {w8 : World} {nm : ByteArray} {sp : Option Addr} {sc : Nat} {l : List Oc} {b q : Nat} (hq : q ≠ b) : (((((((((((w8.setCell ⟨b, 0, none⟩ (.int .i64 1)).setCell ⟨b, 1, none⟩ (.int .i64 0)).setCell ⟨b, 2, none⟩ (.int .i64 0)).setCell ⟨b, 3, none⟩ (.string nm)).setCell ⟨b, 4, none⟩ (.slice sp l.length sc)).setCell ⟨b, 5, none⟩ (.int .i64 0)).setCell ⟨b, 6, none⟩ (.string ⟨#[]⟩)).setCell ⟨b, 7, none⟩ (.string ⟨#[]⟩)).setCell ⟨b, 8, none⟩ (.int .i64 0)).setCell ⟨b, 9, none⟩ (.slice none 0 0)).setCell ⟨b, 10, none⟩ (.int .i64 0)).heap[q]? = w8.heap[q]? := by
  simp only [set1_other _ _ _ _ _ hq]
theorem PcMade.ofB {W3 w8 : World} {nm : ByteArray} {sp : Option Addr} {sc : Nat} {l : List Oc} {b : Nat} (e0 : w8.heap[b]? = some (.cells #[.int .i64 0, .int .i64 0, .int .i64 0, .string ⟨#[]⟩, .slice none 0 0, .int .i64 0, .string ⟨#[]⟩, .string ⟨#[]⟩, .int .i64 0, .slice none 0 0, .int .i64 0] 64 (0, 0))) (hbl : W3.heap.size ≤ b) (ho : SlOk w8 Oc.cells 120 ⟨sp, sc, l⟩) (ht : ∀ a, sp = some a → tagAt w8 a.block = some (72 + 1)) (d0 : Below W3.heap.size W3 w8) : PcMade W3 b 1 nm sp sc l (((((((((((w8.setCell ⟨b, 0, none⟩ (.int .i64 1)).setCell ⟨b, 1, none⟩ (.int .i64 0)).setCell ⟨b, 2, none⟩ (.int .i64 0)).setCell ⟨b, 3, none⟩ (.string nm)).setCell ⟨b, 4, none⟩ (.slice sp l.length sc)).setCell ⟨b, 5, none⟩ (.int .i64 0)).setCell ⟨b, 6, none⟩ (.string ⟨#[]⟩)).setCell ⟨b, 7, none⟩ (.string ⟨#[]⟩)).setCell ⟨b, 8, none⟩ (.int .i64 0)).setCell ⟨b, 9, none⟩ (.slice none 0 0)).setCell ⟨b, 10, none⟩ (.int .i64 0)) := by
  have hz := tag_row e0
  have e1 := heap_setCell_same _ b 0 _ _ (.int .i64 1) e0
  have e2 := heap_setCell_same _ b 1 _ _ (.int .i64 0) e1
  have e3 := heap_setCell_same _ b 2 _ _ (.int .i64 0) e2
  have e4 := heap_setCell_same _ b 3 _ _ (.string nm) e3
  have e5 := heap_setCell_same _ b 4 _ _ (.slice sp l.length sc) e4
  have e6 := heap_setCell_same _ b 5 _ _ (.int .i64 0) e5
  have e7 := heap_setCell_same _ b 6 _ _ (.string ⟨#[]⟩) e6
  have e8 := heap_setCell_same _ b 7 _ _ (.string ⟨#[]⟩) e7
  have e9 := heap_setCell_same _ b 8 _ _ (.int .i64 0) e8
  have e10 := heap_setCell_same _ b 9 _ _ (.slice none 0 0) e9
  have e11 := heap_setCell_same _ b 10 _ _ (.int .i64 0) e10
  have d1 := d0.setCell (show W3.heap.size ≤ (⟨b, 0, none⟩ : Addr).block from hbl) (.int .i64 1)
  have d2 := d1.setCell (show W3.heap.size ≤ (⟨b, 1, none⟩ : Addr).block from hbl) (.int .i64 0)
  have d3 := d2.setCell (show W3.heap.size ≤ (⟨b, 2, none⟩ : Addr).block from hbl) (.int .i64 0)
  have d4 := d3.setCell (show W3.heap.size ≤ (⟨b, 3, none⟩ : Addr).block from hbl) (.string nm)
  have d5 := d4.setCell (show W3.heap.size ≤ (⟨b, 4, none⟩ : Addr).block from hbl) (.slice sp l.length sc)
  have d6 := d5.setCell (show W3.heap.size ≤ (⟨b, 5, none⟩ : Addr).block from hbl) (.int .i64 0)
  have d7 := d6.setCell (show W3.heap.size ≤ (⟨b, 6, none⟩ : Addr).block from hbl) (.string ⟨#[]⟩)
  have d8 := d7.setCell (show W3.heap.size ≤ (⟨b, 7, none⟩ : Addr).block from hbl) (.string ⟨#[]⟩)
  have d9 := d8.setCell (show W3.heap.size ≤ (⟨b, 8, none⟩ : Addr).block from hbl) (.int .i64 0)
  have d10 := d9.setCell (show W3.heap.size ≤ (⟨b, 9, none⟩ : Addr).block from hbl) (.slice none 0 0)
  have d11 := d10.setCell (show W3.heap.size ≤ (⟨b, 10, none⟩ : Addr).block from hbl) (.int .i64 0)
  have hk : ∀ a, sp = some a → (((((((((((w8.setCell ⟨b, 0, none⟩ (.int .i64 1)).setCell ⟨b, 1, none⟩ (.int .i64 0)).setCell ⟨b, 2, none⟩ (.int .i64 0)).setCell ⟨b, 3, none⟩ (.string nm)).setCell ⟨b, 4, none⟩ (.slice sp l.length sc)).setCell ⟨b, 5, none⟩ (.int .i64 0)).setCell ⟨b, 6, none⟩ (.string ⟨#[]⟩)).setCell ⟨b, 7, none⟩ (.string ⟨#[]⟩)).setCell ⟨b, 8, none⟩ (.int .i64 0)).setCell ⟨b, 9, none⟩ (.slice none 0 0)).setCell ⟨b, 10, none⟩ (.int .i64 0)).heap[a.block]? = w8.heap[a.block]? := fun a ha => sets_other (tag_ne (ht a ha) hz (by decide))
  simp only [List.setIfInBounds_toArray, List.set_cons_zero, List.set_cons_succ] at e11
  exact ⟨e11, ⟨row_blk ho.row hk, ho.len, ho.cap, ho.nil⟩, fun a ha => tag_blk (ht a ha) (hk a ha), d11, hbl⟩
theorem PcMade.at1 {W3 wx w5 : World} {bx : Nat} {k : Int} {nm : ByteArray} {sp : Option Addr} {sc : Nat} {l : List Oc} (h : PcMade W3 bx k nm sp sc l wx) (hb : Below wx.heap.size wx w5) : SlOk w5 Oc.cells 120 ⟨sp, sc, l⟩ ∧ ∀ a, sp = some a → tagAt w5 a.block = some (72 + 1) :=
  ⟨h.o.below hb, fun a ha => tag_blk (h.t a ha) (hb.block _ (tag_lt (h.t a ha)))⟩
theorem PcMade.at2 {W3 wx w5 : World} {bx : Nat} {k : Int} {nm : ByteArray} {sp : Option Addr} {sc : Nat} {l : List Oc} (h : PcMade W3 bx k nm sp sc l wx) (hb : Below wx.heap.size wx w5) (v : Value) : SlOk (w5.setCell ⟨bx, 0, none⟩ v) Oc.cells 120 ⟨sp, sc, l⟩ ∧ (∀ a, sp = some a → tagAt (w5.setCell ⟨bx, 0, none⟩ v) a.block = some (72 + 1)) ∧ Below W3.heap.size W3 (w5.setCell ⟨bx, 0, none⟩ v) := by
  obtain ⟨h1, h2⟩ := h.at1 hb
  have hbx : tagAt w5 bx = some (64 + 1) := tag_row (Below.blk_lt hb h.b)
  have hk : ∀ a, sp = some a → (w5.setCell ⟨bx, 0, none⟩ v).heap[a.block]? = w5.heap[a.block]? := fun a ha => set1_other _ _ _ _ _ (tag_ne (h2 a ha) hbx (by decide))
  exact ⟨⟨row_blk h1.row hk, h1.len, h1.cap, h1.nil⟩, fun a ha => tag_blk (h2 a ha) (hk a ha), (h.w.trans (hb.mono h.w.size)).setCell h.ge v⟩
theorem hb8A {W3 w8 : World} (hg : W3.drew.grownBy w8 (Value.slice none 0 0).ownBlock) : Below W3.heap.size W3 w8 := (Below.refl W3.heap.size W3).grown (grown_undrew hg) (Nat.le_refl _) (fun k e => (by cases e))
theorem hb8B {W3 w8 : World} {o : Obj} (hg : (W3.alloc o).drew.grownBy w8 (Value.slice none 0 0).ownBlock) : Below W3.heap.size W3 w8 := (alloc_below W3 o).grown (grown_undrew hg) (by simp) (fun k e => (by cases e))
theorem hz8B {W3 w8 : World} {o : Obj} (hg : (W3.alloc o).drew.grownBy w8 (Value.slice none 0 0).ownBlock) : w8.heap[W3.heap.size]? = some o := ((grown_undrew hg).block W3.heap.size (by simp) (fun e => (by cases e))).trans (heap_alloc_new _ _)
set_option maxRecDepth 20000 in
set_option maxHeartbeats 4000000 in
theorem rrow_inst (h : RkN W base m X file line name) {n : Nat} (hn : Sm X n) (s : StR) (hn2 : n + s.cost ≤ 4000000) (hs : s.ok W) (hlow : s.low base) (hk : s.kind = 1) :
    Calls Try.prog 25 #[.pointer (some ⟨m, 0, none⟩), .agg s.cells.toArray] W (RStmtT W base m file line (X.pl.stmt file line name s) (n + s.cost)) := by
  obtain ⟨W1, hW1⟩ : ∃ W1, StB W W1 s := ⟨_, stb W s⟩
  obtain ⟨y0, y1, y2, y3, y4, y5, y6, y7⟩ := st_bat (b := W.heap.size) (s := s) hW1.blk
  have HW := hid hW1
  have HC := hid h
  have HN := hid hn
  have HCOST := hid hn2
  have h1 := h.below hW1.b
  have H1 := hid h1
  have HS := hid (hs.below hW1.b)
  have HLO := hid hlow
  have HFI : Hid (Calls Try.prog 43 #[.agg #[.slice s.labels.p s.labels.l.length s.labels.c, .int .i64 s.kind, .string s.l.name, .slice s.l.opers.p s.l.opers.l.length s.l.opers.c, .slice s.names.p s.names.l.length s.names.c, .int .i64 s.size, .slice s.values.p s.values.l.length s.values.c, .slice s.bytes.p s.bytes.l.length s.bytes.c]] W1 fun e w' => e = .returned (.tuple #[.agg #[.int .i64 (firstV s.values.l).add, .string (firstV s.values.l).plus, .string (firstV s.values.l).minus], .string (firstS s.names.l)]) ∧ Below W1.heap.size W1 w') := rfirst_any s (hs.below hW1.b).values.1 (hs.below hW1.b).names.1
  obtain ⟨R, hR⟩ : ∃ R, R = X.pl.stmt file line name s := ⟨_, rfl⟩
  have HR : Hid (R = (X.pl.put file line name { pc0 with kind := if (growsP s.l.name s.l.opers.l).2.2 then 2 else 1, name := s.l.name, opers := s.l.opers.l } false, name)) := by unfold Hid; rw [hR]; unfold FP.stmt; rw [if_pos hk]
  have HK := hid hk
  have HCS : Hid (1 ≤ s.cost ∧ 1 + s.values.l.length ≤ s.cost ∧ 1 + s.names.l.length ≤ s.cost) := by unfold Hid StR.cost; omega
  have HPUT : Hid (∀ (w3 : World) (k : Int) (sp : Option Addr) (sc : Nat), Below W1.heap.size W1 w3 → SlOk w3 Oc.cells 120 ⟨sp, sc, s.l.opers.l⟩ → (∀ a, sp = some a → tagAt w3 a.block = some (72 + 1)) →
      Calls Try.prog 44 #[.pointer (some ⟨m, 0, none⟩), .agg #[.int .i64 k, .int .i64 0, .int .i64 0, .string s.l.name, .slice sp s.l.opers.l.length sc, .int .i64 0, .string ⟨#[]⟩, .string ⟨#[]⟩, .int .i64 0, .slice none 0 0, .int .i64 0], .bool true] w3
        (RPutT w3 base m file line name (X.pl.put file line name { pc0 with kind := k, name := s.l.name, opers := s.l.opers.l } false) (n + 1))) := fun w3 k sp sc hb ho ht =>
    rput_any (H1.out.below hb) HN.out (by have := HCOST.out; omega) (pcI k s.l.name sp sc s.l.opers.l) ⟨ho, fun a ha => .inr (ht a ha), ⟨Row.nil _ _, Nat.le_refl _, by simp [pcI], fun _ => rfl⟩, fun a ha => (by cases ha)⟩ true
  obtain ⟨fv, hfv⟩ : ∃ fv, fv = firstV s.values.l := ⟨_, rfl⟩
  obtain ⟨fs, hfs⟩ : ∃ fs, fs = firstS s.names.l := ⟨_, rfl⟩
  rw [← hfv, ← hfs] at HFI
  have HFV := hid (And.intro hfv hfs)
  rw [← hR]
  clear h hn hW1 hs h1 hR hk hlow hn2 hfv hfs
  go_enter Try.func25, Try.ntmps25
  go_upto_region 1 with (fail)
  rw [← HW.out.eq]
  go_upto_region 2 with (go_at_call 43; (with_reducible refine HFI.out.mono ?_); rintro e w2 ⟨rfl, hb2⟩)
  obtain ⟨W3, hW3⟩ : ∃ W3, W3 = w2.alloc (.cells #[.int .i64 fv.add, .string fv.plus, .string fv.minus] 62) := ⟨_, rfl⟩
  have hb3 : Below W1.heap.size W1 W3 := by rw [hW3]; exact hb2.alloc hb2.size _
  have hvb : ValBx w2.heap.size fv W3 := by rw [hW3]; exact heap_alloc_new _ _
  have hsb : StBx W.heap.size s W3 := Below.blk_lt hb3 HW.out.blk
  have HB3 := hid hb3
  have HVB := hid hvb
  have HSB := hid hsb
  have HT3 : Hid (Trn base W W3) := (TrnP.below HW.out.b HC.out.hz).trans (TrnP.below hb3 H1.out.hz)
  have H3 := hid (H1.out.below hb3)
  rw [← hW3]
  clear y0 y1 y2 y3 y4 y5 y6 y7 hb2
  obtain ⟨-, y1, -, -, y4, y5, y6, y7⟩ := st_bat hsb
  rw [HK.out] at y1
  generalize hbv : w2.heap.size = bv at *
  clear hb3 hW3 hbv
  have HO3 := hid (HS.out.l.opers.1.below HB3.out)
  have hol := HO3.out.cap
  have hoc := HO3.out.nil
  have hfl := flat_len Oc.cells 15 (fun _ => rfl) s.l.opers.l
  obtain ⟨ol, hole⟩ : ∃ ol, ol = s.l.opers.l.length := ⟨_, rfl⟩
  have HOL := hid hole
  have k2 : ∀ w' : World, StBx W.heap.size s w' → w'.cell? ⟨W.heap.size, 2, none⟩ = some (.string s.l.name) := fun w' h => (st_bat h).2.2.1
  have k3 : ∀ w' : World, StBx W.heap.size s w' → w'.cell? ⟨W.heap.size, 3, none⟩ = some (.slice s.l.opers.p ol s.l.opers.c) := fun w' h => by rw [hole]; exact (st_bat h).2.2.2.1
  have HSA : Hid (∀ o : Obj, StBx W.heap.size s (W3.alloc o).drew) := fun o => Below.blk_lt (alloc_below W3 o).drew HSB.out
  have HS0 : Hid (StBx W.heap.size s W3.drew) := HSB.out
  rw [← hole] at hol hfl
  have HFL := hid hfl
  have HRO : Hid (Row W3.drew s.l.opers.p (s.l.opers.l.flatMap Oc.cells)) := HO3.out.row.below (Below.refl _ _).drew
  have hbs : W.heap.size ≠ W3.heap.size := by have := tag_lt (tag_row hsb); omega
  clear hvb hsb hole hfl
  go_upto_region 4 with (fail)
  go_cut [6] (fun p wx => ∃ bx sp sc, p = .pointer (some ⟨bx, 0, none⟩) ∧ PcMade W3 bx 1 s.l.name sp sc s.l.opers.l wx)
  case first =>
    refine wp_region_held_drew (S := StBx W.heap.size s) (by kernel_rfl) HS0.out (fun hHeld => ?_)
    refine wpAnyH_take (i := 0) (oi := { dst := some 20, op := Op.fieldAddr 57 (Operand.tmp 3) 2, type := 0, pos := "ref.go:104", after := #[], guard := none }) (v := ?pav0) rfl (by kernel_rfl) (by kernel_rfl) (by kernel_rfl) (fun _ _ _ h => h) (Or.inl ⟨by rfl, ?pah0⟩) (by assumption) ?par0
    case pah0 => ((intro w hSw; (try dsimp only at hSw); go_simp); try with_reducible rfl)
    try simp only [Act.put, List.setIfInBounds_toArray, List.set_cons_zero, List.set_cons_succ]
    refine wpAnyH_take (i := 1) (oi := { dst := some 21, op := Op.fieldAddr 25 (Operand.tmp 20) 0, type := 0, pos := "ref.go:104", after := #[{ on := 0, ground := Ground.data }], guard := none }) (v := ?pav1) rfl (by kernel_rfl) (by kernel_rfl) (by kernel_rfl) (fun _ _ _ h => h) (Or.inl ⟨by rfl, ?pah1⟩) (by assumption) ?par1
    case pah1 => ((intro w hSw; (try dsimp only at hSw); go_simp); try with_reducible rfl)
    try simp only [Act.put, List.setIfInBounds_toArray, List.set_cons_zero, List.set_cons_succ]
    refine wpAnyH_take (i := 2) (oi := { dst := some 22, op := Op.load 9 (Operand.tmp 21), type := 9, pos := "ref.go:104", after := #[{ on := 1, ground := Ground.data }], guard := none }) (v := ?pav2) rfl (by kernel_rfl) (by kernel_rfl) (by kernel_rfl) (fun _ _ _ h => h) (Or.inl ⟨by rfl, ?pah2⟩) (by assumption) ?par2
    case pah2 => ((intro w hSw; (try dsimp only at hSw); go_simp); try with_reducible rfl)
    try simp only [Act.put, List.setIfInBounds_toArray, List.set_cons_zero, List.set_cons_succ]
    refine wpAnyH_take (i := 3) (oi := { dst := some 23, op := Op.fieldAddr 57 (Operand.tmp 3) 2, type := 0, pos := "ref.go:104", after := #[], guard := none }) (v := ?pav3) rfl (by kernel_rfl) (by kernel_rfl) (by kernel_rfl) (fun _ _ _ h => h) (Or.inl ⟨by rfl, ?pah3⟩) (by assumption) ?par3
    case pah3 => ((intro w hSw; (try dsimp only at hSw); go_simp); try with_reducible rfl)
    try simp only [Act.put, List.setIfInBounds_toArray, List.set_cons_zero, List.set_cons_succ]
    refine wpAnyH_take (i := 4) (oi := { dst := some 24, op := Op.fieldAddr 25 (Operand.tmp 23) 1, type := 0, pos := "ref.go:104", after := #[{ on := 3, ground := Ground.data }], guard := none }) (v := ?pav4) rfl (by kernel_rfl) (by kernel_rfl) (by kernel_rfl) (fun _ _ _ h => h) (Or.inl ⟨by rfl, ?pah4⟩) (by assumption) ?par4
    case pah4 => ((intro w hSw; (try dsimp only at hSw); go_simp); try with_reducible rfl)
    try simp only [Act.put, List.setIfInBounds_toArray, List.set_cons_zero, List.set_cons_succ]
    refine wpAnyH_take (i := 5) (oi := { dst := some 25, op := Op.load 23 (Operand.tmp 24), type := 23, pos := "ref.go:104", after := #[{ on := 4, ground := Ground.data }], guard := none }) (v := ?pav5) rfl (by kernel_rfl) (by kernel_rfl) (by kernel_rfl) (fun _ _ _ h => h) (Or.inl ⟨by rfl, ?pah5⟩) (by assumption) ?par5
    case pah5 => ((intro w hSw; (try dsimp only at hSw); go_simp); try with_reducible rfl)
    try simp only [Act.put, List.setIfInBounds_toArray, List.set_cons_zero, List.set_cons_succ]
    refine wpAnyH_ready (rs := [6, 9]) (by kernel_rfl) (by simp) ?_
    refine AllReadyH.cons (o := { dst := some 26, op := Op.call { callee := Callee.builtin Builtin.append, args := #[Operand.const (Value.slice none 0 0), Operand.tmp 25], argTypes := #[23, 23] }, type := 23, pos := "ref.go:104", after := #[{ on := 5, ground := Ground.data }], guard := none }) rfl (fun K hK => ?_) ?_
    · (refine step_appO EOper rfl (.const (.slice none 0 0)) (.tmp 25) rfl W3.heap.size (.slice none 0 0) 0 [] rfl (World.ownsRow_nil _ _ _ _) s.l.opers.p ol s.l.opers.c (s.l.opers.l.flatMap Oc.cells) rfl (by rw [HFL.out]; omega) hoc (by first | exact HRO.out | exact HRO.out.alloc _ | exact HO3.out.row.below ((alloc_below W3 _).drew)) (ocs_ones _) (by unfold maxLen; omega) (by omega) (by simp) ?_); intro vp' w8 ho8 hg8 hs8; rw [Nat.zero_add, List.nil_append, HOL.out] at ho8; obtain ⟨sp, sc, rfl, hso, hst⟩ := sl_of_own (bytes := 120) ho8 (by rw [← HOL.out]; omega); rw [← HOL.out]; have HO8 := hid (And.intro hso (fun a ha => (hst a ha).1)); (first | (have hmk := HMARK; have HB8 := hid (hb8B hg8); have hz8 := hz8B hg8; have HZ8 := hid hz8; have z0 : w8.cell? ⟨W3.heap.size, 0, none⟩ = some (.int .i64 0) := cell_of_row _ _ 0 _ _ _ hz8; have zf0 : w8.frozen? ⟨W3.heap.size, 0, none⟩ = false := frozen_of_row _ _ 0 _ _ hz8; have z1 : w8.cell? ⟨W3.heap.size, 1, none⟩ = some (.int .i64 0) := cell_of_row _ _ 1 _ _ _ hz8; have zf1 : w8.frozen? ⟨W3.heap.size, 1, none⟩ = false := frozen_of_row _ _ 1 _ _ hz8; have z2 : w8.cell? ⟨W3.heap.size, 2, none⟩ = some (.int .i64 0) := cell_of_row _ _ 2 _ _ _ hz8; have zf2 : w8.frozen? ⟨W3.heap.size, 2, none⟩ = false := frozen_of_row _ _ 2 _ _ hz8; have z3 : w8.cell? ⟨W3.heap.size, 3, none⟩ = some (.string ⟨#[]⟩) := cell_of_row _ _ 3 _ _ _ hz8; have zf3 : w8.frozen? ⟨W3.heap.size, 3, none⟩ = false := frozen_of_row _ _ 3 _ _ hz8; have z4 : w8.cell? ⟨W3.heap.size, 4, none⟩ = some (.slice none 0 0) := cell_of_row _ _ 4 _ _ _ hz8; have zf4 : w8.frozen? ⟨W3.heap.size, 4, none⟩ = false := frozen_of_row _ _ 4 _ _ hz8; have z5 : w8.cell? ⟨W3.heap.size, 5, none⟩ = some (.int .i64 0) := cell_of_row _ _ 5 _ _ _ hz8; have zf5 : w8.frozen? ⟨W3.heap.size, 5, none⟩ = false := frozen_of_row _ _ 5 _ _ hz8; have z6 : w8.cell? ⟨W3.heap.size, 6, none⟩ = some (.string ⟨#[]⟩) := cell_of_row _ _ 6 _ _ _ hz8; have zf6 : w8.frozen? ⟨W3.heap.size, 6, none⟩ = false := frozen_of_row _ _ 6 _ _ hz8; have z7 : w8.cell? ⟨W3.heap.size, 7, none⟩ = some (.string ⟨#[]⟩) := cell_of_row _ _ 7 _ _ _ hz8; have zf7 : w8.frozen? ⟨W3.heap.size, 7, none⟩ = false := frozen_of_row _ _ 7 _ _ hz8; have z8 : w8.cell? ⟨W3.heap.size, 8, none⟩ = some (.int .i64 0) := cell_of_row _ _ 8 _ _ _ hz8; have zf8 : w8.frozen? ⟨W3.heap.size, 8, none⟩ = false := frozen_of_row _ _ 8 _ _ hz8; have z9 : w8.cell? ⟨W3.heap.size, 9, none⟩ = some (.slice none 0 0) := cell_of_row _ _ 9 _ _ _ hz8; have zf9 : w8.frozen? ⟨W3.heap.size, 9, none⟩ = false := frozen_of_row _ _ 9 _ _ hz8; have z10 : w8.cell? ⟨W3.heap.size, 10, none⟩ = some (.int .i64 0) := cell_of_row _ _ 10 _ _ _ hz8; have zf10 : w8.frozen? ⟨W3.heap.size, 10, none⟩ = false := frozen_of_row _ _ 10 _ _ hz8; clear hz8 hmk) | (have HB8 := hid (hb8A hg8))); have HS8 : Hid (StBx W.heap.size s w8) := Below.blk_lt HB8.out HSB.out; clear ho8 hg8 hs8 hso hst; refine hK.out _ _ HS8.out (fun hHeld => ?_)
      clear hK K
      try simp only [Act.put, List.setIfInBounds_toArray, List.set_cons_zero, List.set_cons_succ]
      refine wpAnyH_take (i := 7) (oi := { dst := some 27, op := Op.build 25 #[(0, Operand.tmp 22), (1, Operand.tmp 26)], type := 25, pos := "ref.go:104", after := #[{ on := 2, ground := Ground.data }, { on := 6, ground := Ground.data }], guard := none }) (v := ?paav7) rfl (by kernel_rfl) (by kernel_rfl) (by kernel_rfl) (fun _ _ _ h => h) (Or.inl ⟨by rfl, ?paah7⟩) (by assumption) ?paar7
      case paah7 => ((intro w hSw; (try dsimp only at hSw); go_simp); try with_reducible rfl)
      try simp only [Act.put, List.setIfInBounds_toArray, List.set_cons_zero, List.set_cons_succ]
      refine wpAnyH_take (i := 8) (oi := { dst := some 28, op := Op.build 64 #[(0, Operand.const (Value.int IntKind.i64 1)), (3, Operand.tmp 27)], type := 64, pos := "ref.go:104", after := #[{ on := 7, ground := Ground.data }], guard := none }) (v := ?paav8) rfl (by kernel_rfl) (by kernel_rfl) (by kernel_rfl) (fun _ _ _ h => h) (Or.inl ⟨by rfl, ?paah8⟩) (by assumption) ?paar8
      case paah8 => ((intro w hSw; (try dsimp only at hSw); go_simp); try with_reducible rfl)
      try simp only [Act.put, List.setIfInBounds_toArray, List.set_cons_zero, List.set_cons_succ]
      refine wpAnyH_ready (rs := [9]) (by kernel_rfl) (by simp) ?_
      refine AllReadyH.cons (o := { dst := some 6, op := Op.alloc 64, type := 0, pos := "ref.go:104", after := #[], guard := none }) rfl (fun K hK => ?_) AllReadyH.nil
      go_simp; have HMARK := hid True.intro; (first | (have HNOT := HS8; refine hK.out _ _ (by first | exact Below.blk_lt (alloc_below w8 _) HNOT.out | exact Below.blk_lt (alloc_below w8 _).drew HNOT.out) (fun hHeld => ?_)) | (refine hK.out _ _ (HSA.out _) (fun hHeld => ?_)))
      clear hK K
      try simp only [Act.put, List.setIfInBounds_toArray, List.set_cons_zero, List.set_cons_succ]
      refine wpAnyH_ready (rs := [10]) (by kernel_rfl) (by simp) ?_
      refine AllReadyH.cons (o := { dst := none, op := Op.store 64 (Operand.tmp 6) (Operand.tmp 28), type := 0, pos := "ref.go:104", after := #[{ on := 9, ground := Ground.data }, { on := 8, ground := Ground.data }, { on := 6, ground := Ground.chain }, { on := 0, ground := Ground.phase }, { on := 1, ground := Ground.phase }, { on := 2, ground := Ground.phase }, { on := 3, ground := Ground.phase }, { on := 4, ground := Ground.phase }, { on := 5, ground := Ground.phase }, { on := 6, ground := Ground.phase }, { on := 7, ground := Ground.phase }, { on := 8, ground := Ground.phase }, { on := 9, ground := Ground.phase }], guard := none }) rfl (fun K hK => ?_) AllReadyH.nil
      go_simp; refine hK.out _ _ (by first | (have hmk := HZ8; simp only [StBx, set1_other _ _ _ _ _ hbs]; exact HS8.out) | exact Below.blk_lt (alloc_below w8 _) HS8.out | exact Below.blk_lt (alloc_below w8 _).drew HS8.out) (fun hHeld => ?_)
      clear hK K
      try simp only [Act.put, List.setIfInBounds_toArray, List.set_cons_zero, List.set_cons_succ]
      refine wpAnyH_done (by kernel_rfl) ?_ _
      go_wp2_with fail
      go_meet
      rw [HOL.out]
      first | (have hmk := HZ8; have hq := PcMade.ofB (nm := s.l.name) (sp := sp) (sc := sc) (l := s.l.opers.l) HZ8.out (Nat.le_refl _) HO8.out.1 HO8.out.2 HB8.out; exact ⟨_, sp, sc, rfl, hq⟩) | exact ⟨_, sp, sc, rfl, PcMade.ofA HO8.out.1 HO8.out.2 HB8.out⟩
    refine AllReadyH.cons (o := { dst := some 6, op := Op.alloc 64, type := 0, pos := "ref.go:104", after := #[], guard := none }) rfl (fun K hK => ?_) AllReadyH.nil
    go_simp; have HMARK := hid True.intro; (first | (have HNOT := HS8; refine hK.out _ _ (by first | exact Below.blk_lt (alloc_below w8 _) HNOT.out | exact Below.blk_lt (alloc_below w8 _).drew HNOT.out) (fun hHeld => ?_)) | (refine hK.out _ _ (HSA.out _) (fun hHeld => ?_)))
    clear hK K
    try simp only [Act.put, List.setIfInBounds_toArray, List.set_cons_zero, List.set_cons_succ]
    refine wpAnyH_ready (rs := [6]) (by kernel_rfl) (by simp) ?_
    refine AllReadyH.cons (o := { dst := some 26, op := Op.call { callee := Callee.builtin Builtin.append, args := #[Operand.const (Value.slice none 0 0), Operand.tmp 25], argTypes := #[23, 23] }, type := 23, pos := "ref.go:104", after := #[{ on := 5, ground := Ground.data }], guard := none }) rfl (fun K hK => ?_) AllReadyH.nil
    (refine step_appO EOper rfl (.const (.slice none 0 0)) (.tmp 25) rfl W3.heap.size (.slice none 0 0) 0 [] rfl (World.ownsRow_nil _ _ _ _) s.l.opers.p ol s.l.opers.c (s.l.opers.l.flatMap Oc.cells) rfl (by rw [HFL.out]; omega) hoc (by first | exact HRO.out | exact HRO.out.alloc _ | exact HO3.out.row.below ((alloc_below W3 _).drew)) (ocs_ones _) (by unfold maxLen; omega) (by omega) (by simp) ?_); intro vp' w8 ho8 hg8 hs8; rw [Nat.zero_add, List.nil_append, HOL.out] at ho8; obtain ⟨sp, sc, rfl, hso, hst⟩ := sl_of_own (bytes := 120) ho8 (by rw [← HOL.out]; omega); rw [← HOL.out]; have HO8 := hid (And.intro hso (fun a ha => (hst a ha).1)); (first | (have hmk := HMARK; have HB8 := hid (hb8B hg8); have hz8 := hz8B hg8; have HZ8 := hid hz8; have z0 : w8.cell? ⟨W3.heap.size, 0, none⟩ = some (.int .i64 0) := cell_of_row _ _ 0 _ _ _ hz8; have zf0 : w8.frozen? ⟨W3.heap.size, 0, none⟩ = false := frozen_of_row _ _ 0 _ _ hz8; have z1 : w8.cell? ⟨W3.heap.size, 1, none⟩ = some (.int .i64 0) := cell_of_row _ _ 1 _ _ _ hz8; have zf1 : w8.frozen? ⟨W3.heap.size, 1, none⟩ = false := frozen_of_row _ _ 1 _ _ hz8; have z2 : w8.cell? ⟨W3.heap.size, 2, none⟩ = some (.int .i64 0) := cell_of_row _ _ 2 _ _ _ hz8; have zf2 : w8.frozen? ⟨W3.heap.size, 2, none⟩ = false := frozen_of_row _ _ 2 _ _ hz8; have z3 : w8.cell? ⟨W3.heap.size, 3, none⟩ = some (.string ⟨#[]⟩) := cell_of_row _ _ 3 _ _ _ hz8; have zf3 : w8.frozen? ⟨W3.heap.size, 3, none⟩ = false := frozen_of_row _ _ 3 _ _ hz8; have z4 : w8.cell? ⟨W3.heap.size, 4, none⟩ = some (.slice none 0 0) := cell_of_row _ _ 4 _ _ _ hz8; have zf4 : w8.frozen? ⟨W3.heap.size, 4, none⟩ = false := frozen_of_row _ _ 4 _ _ hz8; have z5 : w8.cell? ⟨W3.heap.size, 5, none⟩ = some (.int .i64 0) := cell_of_row _ _ 5 _ _ _ hz8; have zf5 : w8.frozen? ⟨W3.heap.size, 5, none⟩ = false := frozen_of_row _ _ 5 _ _ hz8; have z6 : w8.cell? ⟨W3.heap.size, 6, none⟩ = some (.string ⟨#[]⟩) := cell_of_row _ _ 6 _ _ _ hz8; have zf6 : w8.frozen? ⟨W3.heap.size, 6, none⟩ = false := frozen_of_row _ _ 6 _ _ hz8; have z7 : w8.cell? ⟨W3.heap.size, 7, none⟩ = some (.string ⟨#[]⟩) := cell_of_row _ _ 7 _ _ _ hz8; have zf7 : w8.frozen? ⟨W3.heap.size, 7, none⟩ = false := frozen_of_row _ _ 7 _ _ hz8; have z8 : w8.cell? ⟨W3.heap.size, 8, none⟩ = some (.int .i64 0) := cell_of_row _ _ 8 _ _ _ hz8; have zf8 : w8.frozen? ⟨W3.heap.size, 8, none⟩ = false := frozen_of_row _ _ 8 _ _ hz8; have z9 : w8.cell? ⟨W3.heap.size, 9, none⟩ = some (.slice none 0 0) := cell_of_row _ _ 9 _ _ _ hz8; have zf9 : w8.frozen? ⟨W3.heap.size, 9, none⟩ = false := frozen_of_row _ _ 9 _ _ hz8; have z10 : w8.cell? ⟨W3.heap.size, 10, none⟩ = some (.int .i64 0) := cell_of_row _ _ 10 _ _ _ hz8; have zf10 : w8.frozen? ⟨W3.heap.size, 10, none⟩ = false := frozen_of_row _ _ 10 _ _ hz8; clear hz8 hmk) | (have HB8 := hid (hb8A hg8))); have HS8 : Hid (StBx W.heap.size s w8) := Below.blk_lt HB8.out HSB.out; clear ho8 hg8 hs8 hso hst; refine hK.out _ _ HS8.out (fun hHeld => ?_)
    clear hK K
    try simp only [Act.put, List.setIfInBounds_toArray, List.set_cons_zero, List.set_cons_succ]
    refine wpAnyH_take (i := 7) (oi := { dst := some 27, op := Op.build 25 #[(0, Operand.tmp 22), (1, Operand.tmp 26)], type := 25, pos := "ref.go:104", after := #[{ on := 2, ground := Ground.data }, { on := 6, ground := Ground.data }], guard := none }) (v := ?pabv7) rfl (by kernel_rfl) (by kernel_rfl) (by kernel_rfl) (fun _ _ _ h => h) (Or.inl ⟨by rfl, ?pabh7⟩) (by assumption) ?pabr7
    case pabh7 => ((intro w hSw; (try dsimp only at hSw); go_simp); try with_reducible rfl)
    try simp only [Act.put, List.setIfInBounds_toArray, List.set_cons_zero, List.set_cons_succ]
    refine wpAnyH_take (i := 8) (oi := { dst := some 28, op := Op.build 64 #[(0, Operand.const (Value.int IntKind.i64 1)), (3, Operand.tmp 27)], type := 64, pos := "ref.go:104", after := #[{ on := 7, ground := Ground.data }], guard := none }) (v := ?pabv8) rfl (by kernel_rfl) (by kernel_rfl) (by kernel_rfl) (fun _ _ _ h => h) (Or.inl ⟨by rfl, ?pabh8⟩) (by assumption) ?pabr8
    case pabh8 => ((intro w hSw; (try dsimp only at hSw); go_simp); try with_reducible rfl)
    try simp only [Act.put, List.setIfInBounds_toArray, List.set_cons_zero, List.set_cons_succ]
    refine wpAnyH_ready (rs := [10]) (by kernel_rfl) (by simp) ?_
    refine AllReadyH.cons (o := { dst := none, op := Op.store 64 (Operand.tmp 6) (Operand.tmp 28), type := 0, pos := "ref.go:104", after := #[{ on := 9, ground := Ground.data }, { on := 8, ground := Ground.data }, { on := 6, ground := Ground.chain }, { on := 0, ground := Ground.phase }, { on := 1, ground := Ground.phase }, { on := 2, ground := Ground.phase }, { on := 3, ground := Ground.phase }, { on := 4, ground := Ground.phase }, { on := 5, ground := Ground.phase }, { on := 6, ground := Ground.phase }, { on := 7, ground := Ground.phase }, { on := 8, ground := Ground.phase }, { on := 9, ground := Ground.phase }], guard := none }) rfl (fun K hK => ?_) AllReadyH.nil
    go_simp; refine hK.out _ _ (by first | (have hmk := HZ8; simp only [StBx, set1_other _ _ _ _ _ hbs]; exact HS8.out) | exact Below.blk_lt (alloc_below w8 _) HS8.out | exact Below.blk_lt (alloc_below w8 _).drew HS8.out) (fun hHeld => ?_)
    clear hK K
    try simp only [Act.put, List.setIfInBounds_toArray, List.set_cons_zero, List.set_cons_succ]
    refine wpAnyH_done (by kernel_rfl) ?_ _
    go_wp2_with fail
    go_meet
    rw [HOL.out]
    first | (have hmk := HZ8; have hq := PcMade.ofB (nm := s.l.name) (sp := sp) (sc := sc) (l := s.l.opers.l) HZ8.out (Nat.le_refl _) HO8.out.1 HO8.out.2 HB8.out; exact ⟨_, sp, sc, rfl, hq⟩) | exact ⟨_, sp, sc, rfl, PcMade.ofA HO8.out.1 HO8.out.2 HB8.out⟩
  case rest =>
    obtain ⟨bx, sp, sc, rfl, hpm⟩ := hcut
    have HPM := hid hpm
    have HBW := hid (HB3.out.trans (hpm.w.mono HB3.out.size))
    have hsb2 : StBx W.heap.size s wc := Below.blk_lt hpm.w HSB.out
    obtain ⟨-, -, q2, q3, -, -, -, -⟩ := st_bat hsb2
    have HG : Hid (Calls Try.prog 12 #[.agg #[.string s.l.name, .slice s.l.opers.p s.l.opers.l.length s.l.opers.c]] wc (GrowsT s.l.name s.l.opers.l wc)) := rgrows_any s.l (HS.out.l.opers.1.below HBW.out)
    unfold GrowsT at HG
    clear hpm hsb2 k2 k3 y4 y5 y6 y7
    obtain ⟨gp, hgp⟩ : ∃ gp, gp = growsP s.l.name s.l.opers.l := ⟨_, rfl⟩
    rw [← hgp] at HG HR
    clear hgp
    go_wp2_with (first
      | (go_at_call 12; (with_reducible refine HG.out.mono ?_); rintro e w5 ⟨rfl, hb5⟩; have HB5 := hid hb5; have hbx5 := Below.blk_lt hb5 HPM.out.b; have HBX5 := hid hbx5; have HBW5 := hid (HBW.out.trans (hb5.mono HBW.out.size)); obtain ⟨p0, p1, p2, p3, p4, p5, p6, p7, p8, p9, p10⟩ := pcI_cells hbx5; have zf0 := frozen_of_row _ _ 0 _ _ hbx5; clear hb5 hbx5))
    · rename gp.2.2 = true => hgt
      obtain ⟨r1, r2, r3⟩ := HPM.out.at2 HB5.out (.int .i64 2)
      refine (HPUT.out _ 2 sp sc (HB3.out.trans (r3.mono HB3.out.size)) r1 r2).mono ?_
      rintro e w6 hput
      have HPT := hid hput
      obtain ⟨rfl, -⟩ := hput
      clear r1 r2
      have HR3 := hid r3
      clear r3
      go_wp2_with fail
      go_end0
      exact RStmtT.of_put (HT3.out.trans (TrnP.below HR3.out H3.out.hz)) HPT.out (by rw [HR.out, if_pos hgt]) (by have := HCS.out.1; omega)
    · have hgt : ¬ gp.2.2 = true := by first | assumption | simp [*]
      obtain ⟨r1, r2⟩ := HPM.out.at1 HB5.out
      refine (HPUT.out _ 1 sp sc HBW5.out r1 r2).mono ?_
      rintro e w6 hput
      have HPT := hid hput
      obtain ⟨rfl, -⟩ := hput
      clear r1 r2
      go_wp2_with fail
      go_end0
      exact RStmtT.of_put (HT3.out.trans (TrnP.below (HPM.out.w.trans (HB5.out.mono HPM.out.w.size)) H3.out.hz)) HPT.out (by rw [HR.out, if_neg hgt]) (by have := HCS.out.1; omega)
end Go.Proofs.Ythlingholhjcnaa
