/-
  FragGroups: the law's walk.
-/
import Derived.Test.YthlingholhjcnaaJG3
namespace Go.Proofs.Ythlingholhjcnaa
open Go.RowKit
variable {W W' w w' : World}
theorem uok_uin {l : List UnR} (hok : ∀ u ∈ l, u.ok W) (hc : unCost l ≤ 40000) : ∀ u ∈ l, UnIn W u := fun u hu => (hok u hu).uin (by
  obtain ⟨i, hi, rfl⟩ := List.getElem_of_mem hu
  have e1 := sum_take UnR.cost l i hi
  have e2 := sum_le UnR.cost l (i + 1)
  unfold unCost at hc
  omega)
theorem unCost_take (l : List UnR) (k : Nat) : unCost (l.take k) ≤ unCost l := sum_le _ l k
theorem unCost_drop (l : List UnR) (k : Nat) : unCost (l.drop k) ≤ unCost l := by
  have h : unCost l = unCost (l.take k) + unCost (l.drop k) := by
    unfold unCost
    rw [← List.sum_append, ← List.map_append, List.take_append_drop]
  omega
/-- What the law needs of Join. -/
structure GJ (W : World) (p : Option Addr) (c : Nat) (l : List UnR) (k : Nat) (p2 : Option Addr) (c2 : Nat) : Prop where
  all : ∀ w, Below W.heap.size W w → Calls Try.prog 16 #[.slice p l.length c] w (JoinR w (joinP (l.map UnR.pl)) 40000)
  a : ∀ w, Below W.heap.size W w → Calls Try.prog 16 #[.slice p k c] w (JoinR w (joinP ((l.take k).map UnR.pl)) 40000)
  b : ∀ w, Below W.heap.size W w → Calls Try.prog 16 #[.slice p2 (l.length - k) c2] w (JoinR w (joinP ((l.drop k).map UnR.pl)) 40000)
theorem JoinR.mono {S : FP} {n m : Nat} {e : Ending} (h : JoinR W S n e w') (hm : n ≤ m) : JoinR W S m e w' := by
  obtain ⟨u, h1, h2, h3⟩ := h
  exact ⟨u, h1, ⟨h2.uin, h2.pl, Nat.le_trans h2.cost hm, h2.rd⟩, h3⟩
theorem gj (p : Option Addr) (c : Nat) (l : List UnR) (W : World) (hrow : Row W p (l.flatMap UnR.cells)) (hok : ∀ u ∈ l, u.ok W) (hc : unCost l ≤ 40000) (hl : l.length ≤ 40) (k : Nat) (hk : k ≤ l.length) (p2 : Option Addr) (c2 : Nat) (hp2 : k < l.length → ∀ b o, p = some ⟨b, o, none⟩ → p2 = some ⟨b, o + k * 3, none⟩) : GJ W p c l k p2 c2 := by
  have hin := uok_uin hok hc
  refine ⟨fun w hb => ?_, fun w hb => ?_, fun w hb => ?_⟩
  · exact (joinR_any p c l w (hrow.below hb) (fun u hu => (hin u hu).below hb) (by omega) (by omega)).mono fun e w' h => h.mono hc
  · have h1 := unCost_take l k
    have := joinR_any p c (l.take k) w ((row_take (f := UnR.cells) (k := 3) (fun _ => rfl) hrow k).below hb) (fun u hu => (hin u (List.mem_of_mem_take hu)).below hb) (by rw [List.length_take]; omega) (by omega)
    rw [List.length_take, Nat.min_eq_left hk] at this
    exact this.mono fun e w' h => h.mono (by omega)
  · have h1 := unCost_drop l k
    have hr : Row W p2 ((l.drop k).flatMap UnR.cells) := by
      by_cases hd : l.drop k = []
      · rw [hd]; exact Row.nil _ _
      · have hll : 0 < l.length := by
          apply Nat.pos_of_ne_zero
          intro h0
          exact hd (by rw [List.length_eq_zero_iff.1 h0]; simp)
        obtain ⟨b, o, rfl, -, -⟩ := hrow.at (by rw [flat_len UnR.cells 3 (fun _ => rfl)]; omega)
        have hlt : k < l.length := by
          apply Nat.lt_of_not_le
          intro h
          exact hd (List.drop_eq_nil_of_le h)
        rw [hp2 hlt b o rfl]
        exact row_drop (f := UnR.cells) (k := 3) (fun _ => rfl) hrow k hk
    have := joinR_any p2 c2 (l.drop k) w (hr.below hb) (fun u hu => (hin u (List.mem_of_mem_drop hu)).below hb) (by rw [List.length_drop]; omega) (by omega)
    rw [List.length_drop] at this
    exact this.mono fun e w' h => h.mono (by omega)
def UBx (ab : Nat) (u : UnR) (w : World) : Prop := w.heap[ab]? = some (.cells #[.slice u.parts.p u.parts.l.length u.parts.c, .slice u.marks.p u.marks.l.length u.marks.c, .slice u.globals.p u.globals.l.length u.globals.c] 32 (0, 0))
theorem UBx.below {ab : Nat} {u : UnR} (h : UBx ab u w) (hb : Below w.heap.size w w') : UBx ab u w' := (hb.block _ (Array.getElem?_eq_some_iff.1 h).1).trans h
theorem ubx_new (w : World) (u : UnR) : UBx w.heap.size u (w.alloc (.cells #[.slice u.parts.p u.parts.l.length u.parts.c, .slice u.marks.p u.marks.l.length u.marks.c, .slice u.globals.p u.globals.l.length u.globals.c] 32)) := heap_alloc_new _ _
/-- Join of one, or two, units that were joined. -/
theorem join_two {b : Nat} {S T : FP} {u v : UnR} (hu : JX w S 40000 u) (hv : JX w T 40000 v) (hr : w.heap[b]? = some (.cells #[.slice u.parts.p u.parts.l.length u.parts.c, .slice u.marks.p u.marks.l.length u.marks.c, .slice u.globals.p u.globals.l.length u.globals.c, .slice v.parts.p v.parts.l.length v.parts.c, .slice v.marks.p v.marks.l.length v.marks.c, .slice v.globals.p v.globals.l.length v.globals.c] 32 (0, 0))) :
    Calls Try.prog 16 #[.slice (some ⟨b, 0, none⟩) 2 2] w (JoinR w (joinP [S, T]) 80000) := by
  have := joinR_any (some ⟨b, 0, none⟩) 2 [u, v] w (row_blkAt (xs := u.cells ++ v.cells) hr |> fun h => by simpa using h) (fun x hx => by rcases List.mem_cons.1 hx with rfl | hx; exact hu.uin; rw [List.mem_singleton.1 hx]; exact hv.uin) (by simp) (by have h1 := hu.cost; have h2 := hv.cost; simp [unCost]; omega)
  refine (show Calls Try.prog _ #[.slice (some ⟨b, 0, none⟩) 2 2] w _ from this).mono fun e w' h => ?_
  rw [show [u, v].map UnR.pl = [S, T] by rw [← hu.pl, ← hv.pl]; rfl] at h
  exact h.mono (by have h1 := hu.cost; have h2 := hv.cost; simp [unCost]; omega)
theorem join_one {b : Nat} {S : FP} {u : UnR} (hu : JX w S 40000 u) (hr : UBx b u w) :
    Calls Try.prog 16 #[.slice (some ⟨b, 0, none⟩) 1 1] w (JoinR w (joinP [S]) 80000) := by
  have := joinR_any (some ⟨b, 0, none⟩) 1 [u] w (row_blkAt (xs := u.cells) hr |> fun h => by simpa using h) (fun x hx => by rw [List.mem_singleton.1 hx]; exact hu.uin) (by simp) (by have h1 := hu.cost; simp [unCost]; omega)
  refine (show Calls Try.prog _ #[.slice (some ⟨b, 0, none⟩) 1 1] w _ from this).mono fun e w' h => ?_
  rw [show [u].map UnR.pl = [S] by rw [← hu.pl]; rfl] at h
  exact h.mono (by have h1 := hu.cost; simp [unCost]; omega)
set_option maxRecDepth 40000 in
set_option maxHeartbeats 4000000 in
theorem groups_walk (W : World) (ls : Sl UnR) (hls : SlOk W UnR.cells 72 ls) (hok : ∀ u ∈ ls.l, u.ok W) (at8 : Int) (h0 : 0 ≤ at8) (h255 : at8 ≤ 255) :
    Calls Try.prog 4 #[.slice ls.p ls.l.length ls.c, .int .u8 at8] W fun e w' => e = .returned (.bool true) ∧ Below W.heap.size W w' := by
  obtain ⟨p, c, l⟩ := ls
  dsimp only at *
  have hlc := hls.len
  have hnil := hls.nil
  have hcap := hls.cap
  dsimp only at hlc hnil hcap
  have HBG := hid begun_any
  have HFEW : Hid (∀ w, Below W.heap.size W w → Calls Try.prog 15 #[.slice p l.length c] w (FewT l w)) := fun w hb => fewU_any p c l w (hls.row.below hb) (fun u hu => (hok u hu).below hb) hlc (by omega)
  obtain ⟨a8, rfl⟩ : ∃ a : Nat, at8 = a := ⟨at8.toNat, by omega⟩
  obtain ⟨k, hk⟩ : ∃ k : Nat, k = a8 % (l.length + 1) := ⟨_, rfl⟩
  have hkl : k ≤ l.length := by rw [hk]; exact Nat.le_of_lt_succ (Nat.mod_lt _ (Nat.succ_pos _))
  have hkI : (k : Int) ≤ l.length := by omega
  have hkc : (k : Int) ≤ c := by omega
  have hmod : (a8 : Int) % ((l.length : Int) + 1) = (k : Nat) := by rw [hk]; exact (Int.natCast_emod a8 (l.length + 1)).symm
  have hmodt : Int.tmod (a8 : Int) ((l.length : Int) + 1) = (k : Nat) := by rw [Int.tmod_eq_emod_of_nonneg h0]; exact hmod
  have HROW := hid hls.row
  have HOK := hid hok
  obtain ⟨n, hn⟩ : ∃ n, n = l.length := ⟨_, rfl⟩
  have HN := hid hn
  have HK := hid hk
  have HGR : Hid (joinP [joinP ((l.take k).map UnR.pl), joinP ((l.drop k).map UnR.pl)] = joinP (l.map UnR.pl)) := by unfold Hid; rw [join_groups, ← List.map_append, List.take_append_drop]
  have HGA : Hid (joinP [joinP (l.map UnR.pl)] = joinP (l.map UnR.pl)) := join_again _
  rw [← hn] at HFEW hlc hkl hkI hmod hmodt ⊢
  clear hls hok hk hn hcap
  go_enter Try.func4, Try.ntmps4
  go_upto_region 1 with (fail)
  go_wp2_with (first
    | (go_at_call 7; go_loud ((with_reducible refine (HBG.out _).mono ?_); rintro e w2 ⟨rfl, hb2⟩; have HB2 := hid hb2; clear hb2)))
  rename World => w2
  refine (HFEW.out w2 HB2.out).mono ?_
  rintro e w3 ⟨⟨bb, rfl, hbb, hb3⟩⟩
  have HB3 := hid (HB2.out.trans (hb3.mono HB2.out.size))
  clear hb3
  dsimp only
  cases bb with
  | false =>
    go_wp2_with (go_at_call 7; go_loud ((with_reducible refine (HBG.out _).mono ?_); rintro e w4 ⟨rfl, hb4⟩; have HB4 := hid (HB3.out.trans (hb4.mono HB3.out.size)); clear hb4))
    go_ret
    exact ⟨rfl, HB4.out⟩
  | true =>
    obtain ⟨hl40, hc4⟩ := hbb rfl
    have HGJ : Hid (∀ p2 c2, (k < l.length → ∀ b o, p = some ⟨b, o, none⟩ → p2 = some ⟨b, o + k * 3, none⟩) → GJ W p c l k p2 c2) := gj p c l W HROW.out HOK.out hc4 hl40 k (by rw [← HN.out]; exact hkl)
    have HGA1 : Hid (∀ w, Below W.heap.size W w → Calls Try.prog 16 #[.slice p n c] w (JoinR w (joinP (l.map UnR.pl)) 40000)) := fun w hb => by rw [HN.out]; exact (HGJ.out (p.map fun a => { a with off := a.off + k * 3 }) 0 (by rintro - b o rfl; rfl)).all w hb
    rw [← HN.out] at hl40
    clear hbb hc4
    go_upto_region 4 with (fail)
    go_wp2_with (fail)
    refine (HGA1.out w3 HB3.out).mono ?_
    rintro e w5 ⟨u1, rfl, hu1, hb5⟩
    have HU1 := hid hu1
    have HB5 := hid (HB3.out.trans (hb5.mono HB3.out.size))
    obtain ⟨w6, hw6⟩ : ∃ w6, w6 = w5.alloc (.cells #[.slice u1.parts.p u1.parts.l.length u1.parts.c, .slice u1.marks.p u1.marks.l.length u1.marks.c, .slice u1.globals.p u1.globals.l.length u1.globals.c] 32) := ⟨_, rfl⟩
    have HW6 := hid hw6
    have hb6 : Below w5.heap.size w5 w6 := by rw [hw6]; exact alloc_below _ _
    have HU6 := hid (hu1.below hb6)
    have HB6 := hid (HB5.out.trans (hb6.mono HB5.out.size))
    have HX6 : Hid (w6.heap[w5.heap.size]? = some (.cells #[.slice u1.parts.p u1.parts.l.length u1.parts.c, .slice u1.marks.p u1.marks.l.length u1.marks.c, .slice u1.globals.p u1.globals.l.length u1.globals.c] 32 (0, 0))) := by rw [hw6]; exact heap_alloc_new _ _
    clear hu1 hb5 hw6 hb6
    dsimp only
    go_upto_region 5 with (fail)
    rw [← HW6.out]
    obtain ⟨ab, hab⟩ : ∃ ab, ab = w5.heap.size := ⟨_, rfl⟩
    rw [← hab] at HX6 ⊢
    clear hab
    obtain ⟨wd, hwd⟩ : ∃ wd, wd = w6.drew := ⟨_, rfl⟩
    have HBD : Hid (Below W.heap.size W wd) := by rw [hwd]; exact HB6.out.drew
    have HUD : Hid (JX wd (joinP (l.map UnR.pl)) 40000 u1) := by rw [hwd]; exact HU6.out.below (Below.refl _ _).drew
    have HSD : Hid (wd.heap[ab]? = some (.cells #[.slice u1.parts.p u1.parts.l.length u1.parts.c, .slice u1.marks.p u1.marks.l.length u1.marks.c, .slice u1.globals.p u1.globals.l.length u1.globals.c] 32 (0, 0))) := by rw [hwd]; exact HX6.out
    have k0 : ∀ w : World, UBx ab u1 w → w.cell? ⟨ab, 0, none⟩ = some (.slice u1.parts.p u1.parts.l.length u1.parts.c) := fun w h => (un_cells h).1
    have k1 : ∀ w : World, UBx ab u1 w → w.cell? ⟨ab, 1, none⟩ = some (.slice u1.marks.p u1.marks.l.length u1.marks.c) := fun w h => (un_cells h).2.1
    have k2 : ∀ w : World, UBx ab u1 w → w.cell? ⟨ab, 2, none⟩ = some (.slice u1.globals.p u1.globals.l.length u1.globals.c) := fun w h => (un_cells h).2.2
    have HSS : Hid (UBx ab u1 wd) := HSD.out
    have hn0 : (n : Int) ≤ c := by omega
    go_cut [35] from 23 to 34 (fun v wx => v = .bool false ∧ Below W.heap.size W wx ∧ JX wx (joinP (l.map UnR.pl)) 40000 u1 ∧ UBx ab u1 wx)
    case first =>
        cases p with
        | none =>
          have hc0 : c = 0 := hnil rfl
          have hn00 : n = 0 := by omega
          have hk00 : k = 0 := by omega
          subst hc0 hn00 hk00
          have HGB : Hid (∀ w, Below W.heap.size W w → Calls Try.prog 16 #[.slice none 0 0] w (JoinR w (joinP ((l.drop 0).map UnR.pl)) 40000)) := fun w hb => by
            have := (HGJ.out none 0 (by rintro - b1 o1 h; cases h)).b w hb
            rw [← HN.out] at this
            exact this
          refine wp_region_held_drew (S := UBx ab u1) (by kernel_rfl) (by rw [← hwd]; exact HSS.out) (fun hHeld => ?_)
          rw [← hwd] at *
          refine wpAnyH_take (i := 0) (oi := { dst := some 23, op := Op.load 32 (Operand.tmp 6), type := 32, pos := "law.go:112", after := #[], guard := none }) (v := ?pnv0) rfl (by kernel_rfl) (by kernel_rfl) (by kernel_rfl) (fun _ _ _ h => h) (Or.inl ⟨by rfl, ?pnh0⟩) (by assumption) ?pnr0
          case pnh0 => ((intro w hSw; (try dsimp only at hSw); go_simp); try with_reducible rfl)
          try simp only [Act.put, List.setIfInBounds_toArray, List.set_cons_zero, List.set_cons_succ]
          refine wpAnyH_take (i := 1) (oi := { dst := some 24, op := Op.move (Operand.tmp 0), type := 44, pos := "law.go:112", after := #[], guard := none }) (v := ?pnv1) rfl (by kernel_rfl) (by kernel_rfl) (by kernel_rfl) (fun _ _ _ h => h) (Or.inl ⟨by rfl, ?pnh1⟩) (by assumption) ?pnr1
          case pnh1 => ((intro w hSw; (try dsimp only at hSw); go_simp); try with_reducible rfl)
          try simp only [Act.put, List.setIfInBounds_toArray, List.set_cons_zero, List.set_cons_succ]
          refine wpAnyH_take (i := 2) (oi := { dst := some 25, op := Op.move (Operand.tmp 5), type := 3, pos := "law.go:112", after := #[], guard := none }) (v := ?pnv2) rfl (by kernel_rfl) (by kernel_rfl) (by kernel_rfl) (fun _ _ _ h => h) (Or.inl ⟨by rfl, ?pnh2⟩) (by assumption) ?pnr2
          case pnh2 => ((intro w hSw; (try dsimp only at hSw); go_simp); try with_reducible rfl)
          try simp only [Act.put, List.setIfInBounds_toArray, List.set_cons_zero, List.set_cons_succ]
          refine wpAnyH_take (i := 3) (oi := { dst := some 26, op := Op.slice 44 (Operand.tmp 24) none (some (Operand.tmp 25)) none, type := 44, pos := "law.go:112", after := #[{ on := 1, ground := Ground.data }, { on := 2, ground := Ground.data }], guard := none }) (v := ?pnv3) rfl (by kernel_rfl) (by kernel_rfl) (by kernel_rfl) (fun _ _ _ h => h) (Or.inl ⟨by rfl, ?pnh3⟩) (by assumption) ?pnr3
          case pnh3 => ((intro w hSw; (try dsimp only at hSw); go_simp); try with_reducible rfl)
          try simp only [Act.put, List.setIfInBounds_toArray, List.set_cons_zero, List.set_cons_succ]
          refine wpAnyH_take (i := 5) (oi := { dst := some 28, op := Op.move (Operand.tmp 0), type := 44, pos := "law.go:112", after := #[], guard := none }) (v := ?pnv5) rfl (by kernel_rfl) (by kernel_rfl) (by kernel_rfl) (fun _ _ _ h => h) (Or.inl ⟨by rfl, ?pnh5⟩) (by assumption) ?pnr5
          case pnh5 => ((intro w hSw; (try dsimp only at hSw); go_simp); try with_reducible rfl)
          try simp only [Act.put, List.setIfInBounds_toArray, List.set_cons_zero, List.set_cons_succ]
          refine wpAnyH_take (i := 6) (oi := { dst := some 29, op := Op.move (Operand.tmp 5), type := 3, pos := "law.go:112", after := #[], guard := none }) (v := ?pnv6) rfl (by kernel_rfl) (by kernel_rfl) (by kernel_rfl) (fun _ _ _ h => h) (Or.inl ⟨by rfl, ?pnh6⟩) (by assumption) ?pnr6
          case pnh6 => ((intro w hSw; (try dsimp only at hSw); go_simp); try with_reducible rfl)
          try simp only [Act.put, List.setIfInBounds_toArray, List.set_cons_zero, List.set_cons_succ]
          refine wpAnyH_take (i := 7) (oi := { dst := some 30, op := Op.slice 44 (Operand.tmp 28) (some (Operand.tmp 29)) none none, type := 44, pos := "law.go:112", after := #[{ on := 5, ground := Ground.data }, { on := 6, ground := Ground.data }], guard := none }) (v := ?pnv7) rfl (by kernel_rfl) (by kernel_rfl) (by kernel_rfl) (fun _ _ _ h => h) (Or.inl ⟨by rfl, ?pnh7⟩) (by assumption) ?pnr7
          case pnh7 => ((intro w hSw; (try dsimp only at hSw); go_simp); try with_reducible rfl)
          try simp only [Act.put, List.setIfInBounds_toArray, List.set_cons_zero, List.set_cons_succ]
          refine wpAnyH_ready (rs := [4]) (by kernel_rfl) (by simp) ?_
          refine AllReadyH.cons (o := { dst := some 27, op := Op.call { callee := Callee.value (Operand.func 16), args := #[Operand.tmp 26], argTypes := #[44] }, type := 32, pos := "law.go:112", after := #[{ on := 3, ground := Ground.data }], guard := none }) rfl (fun K hK => ?_) AllReadyH.nil
          go_simp; go_at_call 16; (with_reducible refine ((HGJ.out none 0 (by rintro - b1 o1 h; cases h)).a wd HBD.out).mono ?_); rintro e1 wa ⟨ua, rfl, hua, hba⟩; have HUA := hid hua; have HSA := hid (UBx.below hHeld hba); have HBA := hid (HBD.out.trans (hba.mono HBD.out.size)); have HUD1 := hid (HUD.out.below hba); clear hua hba; refine hK.out _ _ HSA.out (fun hHeld => ?_)
          clear hK K
          try simp only [Act.put, List.setIfInBounds_toArray, List.set_cons_zero, List.set_cons_succ]
          refine wpAnyH_ready (rs := [8]) (by kernel_rfl) (by simp) ?_
          refine AllReadyH.cons (o := { dst := some 31, op := Op.call { callee := Callee.value (Operand.func 16), args := #[Operand.tmp 30], argTypes := #[44] }, type := 32, pos := "law.go:112", after := #[{ on := 7, ground := Ground.data }, { on := 4, ground := Ground.chain }], guard := none }) rfl (fun K hK => ?_) AllReadyH.nil
          go_simp; go_at_call 16; (with_reducible refine (HGB.out wa HBA.out).mono ?_); rintro e1 wb ⟨ub, rfl, hub, hbb⟩; have HVB := hid hub; have HSB := hid (UBx.below HSA.out hbb); have HBB := hid (HBA.out.trans (hbb.mono HBA.out.size)); have HUD2 := hid (HUD1.out.below hbb); have HUA2 := hid (HUA.out.below hbb); clear hub hbb; refine hK.out _ _ HSB.out (fun hHeld => ?_)
          clear hK K
          try simp only [Act.put, List.setIfInBounds_toArray, List.set_cons_zero, List.set_cons_succ]
          refine wpAnyH_ready (rs := [9]) (by kernel_rfl) (by simp) ?_
          refine AllReadyH.cons (o := { dst := some 32, op := Op.buildSlice 44 2 #[(0, Operand.tmp 27), (1, Operand.tmp 31)], type := 44, pos := "law.go:112", after := #[{ on := 4, ground := Ground.data }, { on := 8, ground := Ground.data }], guard := none }) rfl (fun K hK => ?_) AllReadyH.nil
          go_simp; refine hK.out _ _ (UBx.below hHeld (alloc_below _ _)) (fun hHeld => ?_)
          clear hK K
          try simp only [Act.put, List.setIfInBounds_toArray, List.set_cons_zero, List.set_cons_succ]
          refine wpAnyH_ready (rs := [10]) (by kernel_rfl) (by simp) ?_
          refine AllReadyH.cons (o := { dst := some 33, op := Op.call { callee := Callee.value (Operand.func 16), args := #[Operand.tmp 32], argTypes := #[44] }, type := 32, pos := "law.go:112", after := #[{ on := 9, ground := Ground.data }, { on := 8, ground := Ground.chain }], guard := none }) rfl (fun K hK => ?_) AllReadyH.nil
          go_simp; go_at_call 16; (with_reducible refine (join_two (HUA2.out.below (alloc_below _ _)) (HVB.out.below (alloc_below _ _)) (heap_alloc_new _ _)).mono ?_); rintro e1 wj ⟨uj, rfl, huj, hbj⟩; rw [HGR.out] at huj; have HUJ := hid huj; have HSJ := hid (UBx.below hHeld hbj); have HBJ := hid ((HBB.out.alloc HBB.out.size _).trans (hbj.mono (by simp; have := HBB.out.size; omega))); have HUD3 := hid ((HUD2.out.below (alloc_below _ _)).below hbj); clear huj hbj; refine hK.out _ _ HSJ.out (fun hHeld => ?_)
          clear hK K
          try simp only [Act.put, List.setIfInBounds_toArray, List.set_cons_zero, List.set_cons_succ]
          refine wpAnyH_ready (rs := [11]) (by kernel_rfl) (by simp) ?_
          refine AllReadyH.cons (o := { dst := some 34, op := Op.call { callee := Callee.value (Operand.func 13), args := #[Operand.tmp 23, Operand.tmp 33], argTypes := #[32, 32] }, type := 4, pos := "law.go:112", after := #[{ on := 0, ground := Ground.data }, { on := 10, ground := Ground.data }, { on := 10, ground := Ground.chain }], guard := none }) rfl (fun K hK => ?_) AllReadyH.nil
          go_simp; go_at_call 13; (with_reducible refine (HUD3.out.same HUJ.out).mono ?_); rintro e1 wk ⟨rfl, hbk⟩; have HSK := hid (UBx.below HSJ.out hbk); have HBK := hid (HBJ.out.trans (hbk.mono HBJ.out.size)); have HUD4 := hid (HUD3.out.below hbk); clear hbk; refine hK.out _ _ HSK.out (fun hHeld => ?_)
          clear hK K
          try simp only [Act.put, List.setIfInBounds_toArray, List.set_cons_zero, List.set_cons_succ]
          refine wpAnyH_take (i := 12) (oi := { dst := some 35, op := Op.unOp UnOp.not 4 (Operand.tmp 34), type := 4, pos := "law.go:112", after := #[{ on := 11, ground := Ground.data }], guard := none }) (v := ?pnv12) rfl (by kernel_rfl) (by kernel_rfl) (by kernel_rfl) (fun _ _ _ h => h) (Or.inl ⟨by rfl, ?pnh12⟩) (by assumption) ?pnr12
          case pnh12 => ((intro w hSw; (try dsimp only at hSw); go_simp); try with_reducible rfl)
          try simp only [Act.put, List.setIfInBounds_toArray, List.set_cons_zero, List.set_cons_succ]
          refine wpAnyH_done (by kernel_rfl) ?_ _
          go_wp2_with fail
          go_meet
          refine ⟨?_, HBK.out, HUD4.out, HSK.out⟩
          (first | rfl | (trace_state; simp))
        | some a =>
          obtain ⟨b, o, e⟩ := a
          obtain ⟨p2, hp2⟩ : ∃ p2 : Option Addr, p2 = (if c = k then some ⟨b, o, e⟩ else some (Addr.add ⟨b, o, e⟩ (k * 3))) := ⟨_, rfl⟩
          have HGB : Hid (∀ w, Below W.heap.size W w → Calls Try.prog 16 #[.slice p2 (n - k) (c - k)] w (JoinR w (joinP ((l.drop k).map UnR.pl)) 40000)) := fun w hb => by
            rw [HN.out]
            refine (HGJ.out p2 (c - k) (fun hlt b1 o1 h => ?_)).b w hb
            cases h
            rw [hp2, if_neg (by have := HN.out; omega)]
            simp [Addr.add]
          have HP2 := hid hp2
          clear hp2
          refine wp_region_held_drew (S := UBx ab u1) (by kernel_rfl) (by rw [← hwd]; exact HSS.out) (fun hHeld => ?_)
          rw [← hwd] at *
          refine wpAnyH_take (i := 0) (oi := { dst := some 23, op := Op.load 32 (Operand.tmp 6), type := 32, pos := "law.go:112", after := #[], guard := none }) (v := ?pav0) rfl (by kernel_rfl) (by kernel_rfl) (by kernel_rfl) (fun _ _ _ h => h) (Or.inl ⟨by rfl, ?pah0⟩) (by assumption) ?par0
          case pah0 => ((intro w hSw; (try dsimp only at hSw); go_simp); try with_reducible rfl)
          try simp only [Act.put, List.setIfInBounds_toArray, List.set_cons_zero, List.set_cons_succ]
          refine wpAnyH_take (i := 1) (oi := { dst := some 24, op := Op.move (Operand.tmp 0), type := 44, pos := "law.go:112", after := #[], guard := none }) (v := ?pav1) rfl (by kernel_rfl) (by kernel_rfl) (by kernel_rfl) (fun _ _ _ h => h) (Or.inl ⟨by rfl, ?pah1⟩) (by assumption) ?par1
          case pah1 => ((intro w hSw; (try dsimp only at hSw); go_simp); try with_reducible rfl)
          try simp only [Act.put, List.setIfInBounds_toArray, List.set_cons_zero, List.set_cons_succ]
          refine wpAnyH_take (i := 2) (oi := { dst := some 25, op := Op.move (Operand.tmp 5), type := 3, pos := "law.go:112", after := #[], guard := none }) (v := ?pav2) rfl (by kernel_rfl) (by kernel_rfl) (by kernel_rfl) (fun _ _ _ h => h) (Or.inl ⟨by rfl, ?pah2⟩) (by assumption) ?par2
          case pah2 => ((intro w hSw; (try dsimp only at hSw); go_simp); try with_reducible rfl)
          try simp only [Act.put, List.setIfInBounds_toArray, List.set_cons_zero, List.set_cons_succ]
          refine wpAnyH_take (i := 3) (oi := { dst := some 26, op := Op.slice 44 (Operand.tmp 24) none (some (Operand.tmp 25)) none, type := 44, pos := "law.go:112", after := #[{ on := 1, ground := Ground.data }, { on := 2, ground := Ground.data }], guard := none }) (v := ?pav3) rfl (by kernel_rfl) (by kernel_rfl) (by kernel_rfl) (fun _ _ _ h => h) (Or.inl ⟨by rfl, ?pah3⟩) (by assumption) ?par3
          case pah3 => ((intro w hSw; (try dsimp only at hSw); go_simp); try with_reducible rfl)
          try simp only [Act.put, List.setIfInBounds_toArray, List.set_cons_zero, List.set_cons_succ]
          refine wpAnyH_take (i := 5) (oi := { dst := some 28, op := Op.move (Operand.tmp 0), type := 44, pos := "law.go:112", after := #[], guard := none }) (v := ?pav5) rfl (by kernel_rfl) (by kernel_rfl) (by kernel_rfl) (fun _ _ _ h => h) (Or.inl ⟨by rfl, ?pah5⟩) (by assumption) ?par5
          case pah5 => ((intro w hSw; (try dsimp only at hSw); go_simp); try with_reducible rfl)
          try simp only [Act.put, List.setIfInBounds_toArray, List.set_cons_zero, List.set_cons_succ]
          refine wpAnyH_take (i := 6) (oi := { dst := some 29, op := Op.move (Operand.tmp 5), type := 3, pos := "law.go:112", after := #[], guard := none }) (v := ?pav6) rfl (by kernel_rfl) (by kernel_rfl) (by kernel_rfl) (fun _ _ _ h => h) (Or.inl ⟨by rfl, ?pah6⟩) (by assumption) ?par6
          case pah6 => ((intro w hSw; (try dsimp only at hSw); go_simp); try with_reducible rfl)
          try simp only [Act.put, List.setIfInBounds_toArray, List.set_cons_zero, List.set_cons_succ]
          refine wpAnyH_take (i := 7) (oi := { dst := some 30, op := Op.slice 44 (Operand.tmp 28) (some (Operand.tmp 29)) none none, type := 44, pos := "law.go:112", after := #[{ on := 5, ground := Ground.data }, { on := 6, ground := Ground.data }], guard := none }) (v := ?pav7) rfl (by kernel_rfl) (by kernel_rfl) (by kernel_rfl) (fun _ _ _ h => h) (Or.inl ⟨by rfl, ?pah7⟩) (by assumption) ?par7
          case pah7 => ((intro w hSw; (try dsimp only at hSw); go_simp); try with_reducible rfl)
          try simp only [Act.put, List.setIfInBounds_toArray, List.set_cons_zero, List.set_cons_succ]
          refine wpAnyH_ready (rs := [4]) (by kernel_rfl) (by simp) ?_
          refine AllReadyH.cons (o := { dst := some 27, op := Op.call { callee := Callee.value (Operand.func 16), args := #[Operand.tmp 26], argTypes := #[44] }, type := 32, pos := "law.go:112", after := #[{ on := 3, ground := Ground.data }], guard := none }) rfl (fun K hK => ?_) AllReadyH.nil
          go_simp; go_at_call 16; (with_reducible refine ((HGJ.out (some ⟨b, o + k * 3, e⟩) 0 (by rintro - b1 o1 h; cases h; rfl)).a wd HBD.out).mono ?_); rintro e1 wa ⟨ua, rfl, hua, hba⟩; have HUA := hid hua; have HSA := hid (UBx.below hHeld hba); have HBA := hid (HBD.out.trans (hba.mono HBD.out.size)); have HUD1 := hid (HUD.out.below hba); clear hua hba; refine hK.out _ _ HSA.out (fun hHeld => ?_)
          clear hK K
          try simp only [Act.put, List.setIfInBounds_toArray, List.set_cons_zero, List.set_cons_succ]
          refine wpAnyH_ready (rs := [8]) (by kernel_rfl) (by simp) ?_
          refine AllReadyH.cons (o := { dst := some 31, op := Op.call { callee := Callee.value (Operand.func 16), args := #[Operand.tmp 30], argTypes := #[44] }, type := 32, pos := "law.go:112", after := #[{ on := 7, ground := Ground.data }, { on := 4, ground := Ground.chain }], guard := none }) rfl (fun K hK => ?_) AllReadyH.nil
          go_simp; rw [← HP2.out]; go_at_call 16; (with_reducible refine (HGB.out wa HBA.out).mono ?_); rintro e1 wb ⟨ub, rfl, hub, hbb⟩; have HVB := hid hub; have HSB := hid (UBx.below HSA.out hbb); have HBB := hid (HBA.out.trans (hbb.mono HBA.out.size)); have HUD2 := hid (HUD1.out.below hbb); have HUA2 := hid (HUA.out.below hbb); clear hub hbb; refine hK.out _ _ HSB.out (fun hHeld => ?_)
          clear hK K
          try simp only [Act.put, List.setIfInBounds_toArray, List.set_cons_zero, List.set_cons_succ]
          refine wpAnyH_ready (rs := [9]) (by kernel_rfl) (by simp) ?_
          refine AllReadyH.cons (o := { dst := some 32, op := Op.buildSlice 44 2 #[(0, Operand.tmp 27), (1, Operand.tmp 31)], type := 44, pos := "law.go:112", after := #[{ on := 4, ground := Ground.data }, { on := 8, ground := Ground.data }], guard := none }) rfl (fun K hK => ?_) AllReadyH.nil
          go_simp; refine hK.out _ _ (UBx.below hHeld (alloc_below _ _)) (fun hHeld => ?_)
          clear hK K
          try simp only [Act.put, List.setIfInBounds_toArray, List.set_cons_zero, List.set_cons_succ]
          refine wpAnyH_ready (rs := [10]) (by kernel_rfl) (by simp) ?_
          refine AllReadyH.cons (o := { dst := some 33, op := Op.call { callee := Callee.value (Operand.func 16), args := #[Operand.tmp 32], argTypes := #[44] }, type := 32, pos := "law.go:112", after := #[{ on := 9, ground := Ground.data }, { on := 8, ground := Ground.chain }], guard := none }) rfl (fun K hK => ?_) AllReadyH.nil
          go_simp; go_at_call 16; (with_reducible refine (join_two (HUA2.out.below (alloc_below _ _)) (HVB.out.below (alloc_below _ _)) (heap_alloc_new _ _)).mono ?_); rintro e1 wj ⟨uj, rfl, huj, hbj⟩; rw [HGR.out] at huj; have HUJ := hid huj; have HSJ := hid (UBx.below hHeld hbj); have HBJ := hid ((HBB.out.alloc HBB.out.size _).trans (hbj.mono (by simp; have := HBB.out.size; omega))); have HUD3 := hid ((HUD2.out.below (alloc_below _ _)).below hbj); clear huj hbj; refine hK.out _ _ HSJ.out (fun hHeld => ?_)
          clear hK K
          try simp only [Act.put, List.setIfInBounds_toArray, List.set_cons_zero, List.set_cons_succ]
          refine wpAnyH_ready (rs := [11]) (by kernel_rfl) (by simp) ?_
          refine AllReadyH.cons (o := { dst := some 34, op := Op.call { callee := Callee.value (Operand.func 13), args := #[Operand.tmp 23, Operand.tmp 33], argTypes := #[32, 32] }, type := 4, pos := "law.go:112", after := #[{ on := 0, ground := Ground.data }, { on := 10, ground := Ground.data }, { on := 10, ground := Ground.chain }], guard := none }) rfl (fun K hK => ?_) AllReadyH.nil
          go_simp; go_at_call 13; (with_reducible refine (HUD3.out.same HUJ.out).mono ?_); rintro e1 wk ⟨rfl, hbk⟩; have HSK := hid (UBx.below HSJ.out hbk); have HBK := hid (HBJ.out.trans (hbk.mono HBJ.out.size)); have HUD4 := hid (HUD3.out.below hbk); clear hbk; refine hK.out _ _ HSK.out (fun hHeld => ?_)
          clear hK K
          try simp only [Act.put, List.setIfInBounds_toArray, List.set_cons_zero, List.set_cons_succ]
          refine wpAnyH_take (i := 12) (oi := { dst := some 35, op := Op.unOp UnOp.not 4 (Operand.tmp 34), type := 4, pos := "law.go:112", after := #[{ on := 11, ground := Ground.data }], guard := none }) (v := ?pav12) rfl (by kernel_rfl) (by kernel_rfl) (by kernel_rfl) (fun _ _ _ h => h) (Or.inl ⟨by rfl, ?pah12⟩) (by assumption) ?par12
          case pah12 => ((intro w hSw; (try dsimp only at hSw); go_simp); try with_reducible rfl)
          try simp only [Act.put, List.setIfInBounds_toArray, List.set_cons_zero, List.set_cons_succ]
          refine wpAnyH_done (by kernel_rfl) ?_ _
          go_wp2_with fail
          go_meet
          refine ⟨?_, HBK.out, HUD4.out, HSK.out⟩
          (first | rfl | (trace_state; simp))
    case rest =>
      rename World => w7
      obtain ⟨rfl, hb7, hu7, hx7⟩ := hcut
      have HB7 := hid hb7
      have HU7 := hid hu7
      have HX7 := hid hx7
      clear hb7 hu7 hx7 HSS HSD HUD HBD hwd
      go_upto_region 7 with (fail)
      obtain ⟨wd, hwd⟩ : ∃ wd, wd = w7.drew := ⟨_, rfl⟩
      have HBD : Hid (Below W.heap.size W wd) := by rw [hwd]; exact HB7.out.drew
      have HUD : Hid (JX wd (joinP (l.map UnR.pl)) 40000 u1) := by rw [hwd]; exact HU7.out.below (Below.refl _ _).drew
      have HSS : Hid (UBx ab u1 wd) := by rw [hwd]; exact HX7.out
      refine wp_region_held_drew (S := UBx ab u1) (by kernel_rfl) (by rw [← hwd]; exact HSS.out) (fun hHeld => ?_)
      rw [← hwd] at *
      refine wpAnyH_take (i := 0) (oi := { dst := some 36, op := Op.load 32 (Operand.tmp 6), type := 32, pos := "law.go:115", after := #[], guard := none }) (v := ?pqv0) rfl (by kernel_rfl) (by kernel_rfl) (by kernel_rfl) (fun _ _ _ h => h) (Or.inl ⟨by rfl, ?pqh0⟩) (by assumption) ?pqr0
      case pqh0 => ((intro w hSw; (try dsimp only at hSw); go_simp); try with_reducible rfl)
      try simp only [Act.put, List.setIfInBounds_toArray, List.set_cons_zero, List.set_cons_succ]
      refine wpAnyH_take (i := 1) (oi := { dst := some 37, op := Op.load 32 (Operand.tmp 6), type := 32, pos := "law.go:115", after := #[], guard := none }) (v := ?pqv1) rfl (by kernel_rfl) (by kernel_rfl) (by kernel_rfl) (fun _ _ _ h => h) (Or.inl ⟨by rfl, ?pqh1⟩) (by assumption) ?pqr1
      case pqh1 => ((intro w hSw; (try dsimp only at hSw); go_simp); try with_reducible rfl)
      try simp only [Act.put, List.setIfInBounds_toArray, List.set_cons_zero, List.set_cons_succ]
      refine wpAnyH_ready (rs := [2]) (by kernel_rfl) (by simp) ?_
      refine AllReadyH.cons (o := { dst := some 38, op := Op.buildSlice 44 1 #[(0, Operand.tmp 37)], type := 44, pos := "law.go:115", after := #[{ on := 1, ground := Ground.data }], guard := none }) rfl (fun K hK => ?_) AllReadyH.nil
      go_simp; refine hK.out _ _ (UBx.below hHeld (alloc_below _ _)) (fun hHeld => ?_)
      clear hK K
      try simp only [Act.put, List.setIfInBounds_toArray, List.set_cons_zero, List.set_cons_succ]
      refine wpAnyH_ready (rs := [3]) (by kernel_rfl) (by simp) ?_
      refine AllReadyH.cons (o := { dst := some 39, op := Op.call { callee := Callee.value (Operand.func 16), args := #[Operand.tmp 38], argTypes := #[44] }, type := 32, pos := "law.go:115", after := #[{ on := 2, ground := Ground.data }], guard := none }) rfl (fun K hK => ?_) AllReadyH.nil
      go_simp; go_at_call 16; (with_reducible refine (join_one (HUD.out.below (alloc_below _ _)) (ubx_new _ _)).mono ?_); rintro e1 wj ⟨uj, rfl, huj, hbj⟩; rw [HGA.out] at huj; have HUJ := hid huj; have HSJ := hid (UBx.below hHeld hbj); have HBJ := hid ((HBD.out.alloc HBD.out.size _).trans (hbj.mono (by simp; have := HBD.out.size; omega))); have HUD3 := hid ((HUD.out.below (alloc_below _ _)).below hbj); clear huj hbj; refine hK.out _ _ HSJ.out (fun hHeld => ?_)
      clear hK K
      try simp only [Act.put, List.setIfInBounds_toArray, List.set_cons_zero, List.set_cons_succ]
      refine wpAnyH_ready (rs := [4]) (by kernel_rfl) (by simp) ?_
      refine AllReadyH.cons (o := { dst := some 40, op := Op.call { callee := Callee.value (Operand.func 13), args := #[Operand.tmp 36, Operand.tmp 39], argTypes := #[32, 32] }, type := 4, pos := "law.go:115", after := #[{ on := 0, ground := Ground.data }, { on := 3, ground := Ground.data }, { on := 3, ground := Ground.chain }], guard := none }) rfl (fun K hK => ?_) AllReadyH.nil
      go_simp; go_at_call 13; (with_reducible refine (HUD3.out.same HUJ.out).mono ?_); rintro e1 wk ⟨rfl, hbk⟩; have HSK := hid (UBx.below HSJ.out hbk); have HBK := hid (HBJ.out.trans (hbk.mono HBJ.out.size)); clear hbk; refine hK.out _ _ HSK.out (fun hHeld => ?_)
      clear hK K
      try simp only [Act.put, List.setIfInBounds_toArray, List.set_cons_zero, List.set_cons_succ]
      refine wpAnyH_take (i := 5) (oi := { dst := some 4, op := Op.assign (Operand.tmp 40), type := 4, pos := "law.go:115", after := #[{ on := 4, ground := Ground.data }, { on := 4, ground := Ground.chain }, { on := 0, ground := Ground.phase }, { on := 1, ground := Ground.phase }, { on := 2, ground := Ground.phase }, { on := 3, ground := Ground.phase }, { on := 4, ground := Ground.phase }], guard := none }) (v := ?pqv5) rfl (by kernel_rfl) (by kernel_rfl) (by kernel_rfl) (fun _ _ _ h => h) (Or.inl ⟨by rfl, ?pqh5⟩) (by assumption) ?pqr5
      case pqh5 => ((intro w hSw; (try dsimp only at hSw); go_simp); try with_reducible rfl)
      try simp only [Act.put, List.setIfInBounds_toArray, List.set_cons_zero, List.set_cons_succ]
      refine wpAnyH_done (by kernel_rfl) ?_ _
      go_wp2_with fail
      go_ret
      exact ⟨rfl, HBK.out⟩
end Go.Proofs.Ythlingholhjcnaa
