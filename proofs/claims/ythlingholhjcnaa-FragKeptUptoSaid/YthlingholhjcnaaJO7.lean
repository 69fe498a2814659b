/-
  The document's row: bytes, data, any kind.
  The document's row of any kind; One.
  The document's sameOpers on equal lists.
  The document's SamePiece on equal pieces.
  The document's sameParts on equal parts.
  The document's Same on equal units.
  slices.Equal of equal faults; the law's short.
  Both One's units: Same and Equal answer true.
  The law's begun: its one row, and what One makes of it.
  One's unit in begun, in plain words.
-/
import Derived.Test.YthlingholhjcnaaJO6
import Derived.Shelf.Bytes.SlSmallAll
namespace Go.Proofs.Ythlingholhjcnaa
open Go.RowKit
variable {W W' w w' : World} {base m : Nat} {X X' : FV} {file line : Int} {name : ByteArray}

theorem u8s_ones (l : List Int) : ∀ u ∈ l.flatMap (fun n : Int => [Value.int .u8 n]), u.oneCell' = true := fun u hu => by
  obtain ⟨c, _, h⟩ := List.mem_flatMap.1 hu
  simp at h; subst h; rfl
set_option maxRecDepth 20000 in
theorem run_neq_vv (a b : Vv) (w : World) : (binOp .neq 62 (.agg #[.int .i64 a.add, .string a.plus, .string a.minus]) (.agg #[.int .i64 b.add, .string b.plus, .string b.minus])).run Try.prog w = .ok (.bool (!decide (a = b))) w := by
  obtain ⟨a1, a2, a3⟩ := a
  obtain ⟨b1, b2, b3⟩ := b
  by_cases h1 : a1 = b1
  · by_cases h2 : a2 = b2
    · by_cases h3 : a3 = b3
      · subst h1 h2 h3
        go_simp
      · subst h1 h2
        have he := strNe h3
        go_simp
    · subst h1
      have he := strNe h2
      go_simp
  · have he : (a1 == b1) = false := by simp [h1]
    go_simp
set_option maxRecDepth 20000 in
set_option maxHeartbeats 4000000 in
theorem rrow_ascii (h : RkN W base m X file line name) {n : Nat} (hn : Sm X n) (s : StR) (hn2 : n + s.cost ≤ 4000000) (hs : s.ok W) (hlow : s.low base) (hk : s.kind = 6) :
    Calls Try.prog 25 #[.pointer (some ⟨m, 0, none⟩), .agg s.cells.toArray] W (RStmtT W base m file line (X.pl.stmt file line name s) (n + s.cost)) := by
  obtain ⟨W1, hW1⟩ : ∃ W1, StB W W1 s := ⟨_, stb W s⟩
  obtain ⟨y0, y1, y2, y3, y4, y5, y6, y7⟩ := st_bat (b := W.heap.size) (s := s) hW1.blk
  have HW := hid hW1
  have HC := hid h
  have HN := hid hn
  have HCOST := hid hn2
  have h1 := h.below hW1.b
  have H1 := hid h1
  have HS := hid (hs.below hW1.b)
  have HLO := hid hlow
  have HFI : Hid (Calls Try.prog 43 #[.agg #[.slice s.labels.p s.labels.l.length s.labels.c, .int .i64 s.kind, .string s.l.name, .slice s.l.opers.p s.l.opers.l.length s.l.opers.c, .slice s.names.p s.names.l.length s.names.c, .int .i64 s.size, .slice s.values.p s.values.l.length s.values.c, .slice s.bytes.p s.bytes.l.length s.bytes.c]] W1 fun e w' => e = .returned (.tuple #[.agg #[.int .i64 (firstV s.values.l).add, .string (firstV s.values.l).plus, .string (firstV s.values.l).minus], .string (firstS s.names.l)]) ∧ Below W1.heap.size W1 w') := rfirst_any s (hs.below hW1.b).values.1 (hs.below hW1.b).names.1
  obtain ⟨R, hR⟩ : ∃ R, R = X.pl.stmt file line name s := ⟨_, rfl⟩
  have HR : Hid (R = (X.pl.put file line name { pc0 with kind := 4, b := s.bytes.l } (decide (s.bytes.l.length = 0)), name)) := by unfold Hid; rw [hR]; unfold FP.stmt; rw [if_neg (by omega), if_neg (by omega), if_neg (by omega), if_pos hk]
  have HK := hid hk
  have HCS : Hid (1 ≤ s.cost ∧ 1 + s.values.l.length ≤ s.cost ∧ 1 + s.names.l.length ≤ s.cost) := by unfold Hid StR.cost; omega
  have HPUT : Hid (∀ (w3 : World) (p : Option Addr) (c : Nat) (bad : Bool), Below W1.heap.size W1 w3 → SlOk w3 (fun n : Int => [Value.int .u8 n]) 1 ⟨p, c, s.bytes.l⟩ → (∀ a, p = some a → tagAt w3 a.block = some (5 + 1)) →
      Calls Try.prog 44 #[.pointer (some ⟨m, 0, none⟩), .agg #[.int .i64 4, .int .i64 0, .int .i64 0, .string ⟨#[]⟩, .slice none 0 0, .int .i64 0, .string ⟨#[]⟩, .string ⟨#[]⟩, .int .i64 0, .slice p s.bytes.l.length c, .int .i64 0], .bool bad] w3
        (RPutT w3 base m file line name (X.pl.put file line name { pc0 with kind := 4, b := s.bytes.l } (!bad)) (n + 1))) := fun w3 p c bad hb ho ht =>
    rput_any (H1.out.below hb) HN.out (by have := HCOST.out; omega) ⟨4, 0, 0, ⟨⟨#[]⟩, ⟨none, 0, []⟩⟩, v00, 0, ⟨p, c, s.bytes.l⟩, 0⟩ ⟨⟨Row.nil _ _, Nat.le_refl _, by simp, fun _ => rfl⟩, fun a ha => (by cases ha), ho, fun a ha => .inr (ht a ha)⟩ bad
  obtain ⟨fv, hfv⟩ : ∃ fv, fv = firstV s.values.l := ⟨_, rfl⟩
  obtain ⟨fs, hfs⟩ : ∃ fs, fs = firstS s.names.l := ⟨_, rfl⟩
  rw [← hfv, ← hfs] at HFI
  have HFV := hid (And.intro hfv hfs)
  rw [← hR]
  clear h hn hW1 hs h1 hR hk hlow hn2 hfv hfs
  go_enter Try.func25, Try.ntmps25
  go_upto_region 1 with (fail)
  rw [← HW.out.eq]
  go_upto_region 2 with (go_at_call 43; (with_reducible refine HFI.out.mono ?_); rintro e w2 ⟨rfl, hb2⟩)
  obtain ⟨W3, hW3⟩ : ∃ W3, W3 = w2.alloc (.cells #[.int .i64 fv.add, .string fv.plus, .string fv.minus] 62) := ⟨_, rfl⟩
  have hb3 : Below W1.heap.size W1 W3 := by rw [hW3]; exact hb2.alloc hb2.size _
  have hvb : ValBx w2.heap.size fv W3 := by rw [hW3]; exact heap_alloc_new _ _
  have hsb : StBx W.heap.size s W3 := Below.blk_lt hb3 HW.out.blk
  have HB3 := hid hb3
  have HVB := hid hvb
  have HSB := hid hsb
  have HT3 : Hid (Trn base W W3) := (TrnP.below HW.out.b HC.out.hz).trans (TrnP.below hb3 H1.out.hz)
  have H3 := hid (H1.out.below hb3)
  rw [← hW3]
  clear y0 y1 y2 y3 y4 y5 y6 y7 hb2
  obtain ⟨-, y1, -, -, y4, y5, y6, y7⟩ := st_bat hsb
  rw [HK.out] at y1
  generalize hbv : w2.heap.size = bv at *
  clear hb3 hW3 hbv
  have HO3 := hid (HS.out.bytes.1.below HB3.out)
  have hol := HO3.out.cap
  have hoc := HO3.out.nil
  have hfl := flat_len (fun n : Int => [Value.int .u8 n]) 1 (fun _ => rfl) s.bytes.l
  obtain ⟨ol, hole⟩ : ∃ ol, ol = s.bytes.l.length := ⟨_, rfl⟩
  have HOL := hid hole
  have HBAD : Hid ((!decide (0 < ol)) = decide (s.bytes.l.length = 0)) := by unfold Hid; rw [← hole]; by_cases e : ol = 0 <;> simp [e] <;> omega
  have k7 : ∀ w' : World, StBx W.heap.size s w' → w'.cell? ⟨W.heap.size, 7, none⟩ = some (.slice s.bytes.p ol s.bytes.c) := fun w' h => by rw [hole]; exact (st_bat h).2.2.2.2.2.2.2
  have HS0 : Hid (StBx W.heap.size s W3.drew) := HSB.out
  rw [← hole] at hol hfl
  have HFL := hid hfl
  have HRO : Hid (Row W3.drew s.bytes.p (s.bytes.l.flatMap (fun n : Int => [Value.int .u8 n]))) := HO3.out.row.below (Below.refl _ _).drew
  clear hvb hsb hole hfl y4 y5 y6 y7
  go_upto_region 17 with (fail)
  refine wp_region_held_drew (S := StBx W.heap.size s) (by kernel_rfl) HS0.out (fun hHeld => ?_)
  refine wpAnyH_take (i := 0) (oi := { dst := some 76, op := Op.move (Operand.tmp 0), type := 83, pos := "ref.go:116", after := #[], guard := none }) (v := ?pav0) rfl (by kernel_rfl) (by kernel_rfl) (by kernel_rfl) (fun _ _ _ h => h) (Or.inl ⟨by rfl, ?pah0⟩) (by assumption) ?par0
  case pah0 => ((intro w hSw; (try dsimp only at hSw); go_simp); try with_reducible rfl)
  try simp only [Act.put, List.setIfInBounds_toArray, List.set_cons_zero, List.set_cons_succ]
  refine wpAnyH_take (i := 1) (oi := { dst := some 77, op := Op.fieldAddr 57 (Operand.tmp 3) 6, type := 0, pos := "ref.go:116", after := #[], guard := none }) (v := ?pav1) rfl (by kernel_rfl) (by kernel_rfl) (by kernel_rfl) (fun _ _ _ h => h) (Or.inl ⟨by rfl, ?pah1⟩) (by assumption) ?par1
  case pah1 => ((intro w hSw; (try dsimp only at hSw); go_simp); try with_reducible rfl)
  try simp only [Act.put, List.setIfInBounds_toArray, List.set_cons_zero, List.set_cons_succ]
  refine wpAnyH_take (i := 2) (oi := { dst := some 78, op := Op.load 55 (Operand.tmp 77), type := 55, pos := "ref.go:116", after := #[{ on := 1, ground := Ground.data }], guard := none }) (v := ?pav2) rfl (by kernel_rfl) (by kernel_rfl) (by kernel_rfl) (fun _ _ _ h => h) (Or.inl ⟨by rfl, ?pah2⟩) (by assumption) ?par2
  case pah2 => ((intro w hSw; (try dsimp only at hSw); go_simp); try with_reducible rfl)
  try simp only [Act.put, List.setIfInBounds_toArray, List.set_cons_zero, List.set_cons_succ]
  refine wpAnyH_take (i := 5) (oi := { dst := some 81, op := Op.fieldAddr 57 (Operand.tmp 3) 6, type := 0, pos := "ref.go:116", after := #[], guard := none }) (v := ?pav5) rfl (by kernel_rfl) (by kernel_rfl) (by kernel_rfl) (fun _ _ _ h => h) (Or.inl ⟨by rfl, ?pah5⟩) (by assumption) ?par5
  case pah5 => ((intro w hSw; (try dsimp only at hSw); go_simp); try with_reducible rfl)
  try simp only [Act.put, List.setIfInBounds_toArray, List.set_cons_zero, List.set_cons_succ]
  refine wpAnyH_take (i := 6) (oi := { dst := some 82, op := Op.load 55 (Operand.tmp 81), type := 55, pos := "ref.go:116", after := #[{ on := 5, ground := Ground.data }], guard := none }) (v := ?pav6) rfl (by kernel_rfl) (by kernel_rfl) (by kernel_rfl) (fun _ _ _ h => h) (Or.inl ⟨by rfl, ?pah6⟩) (by assumption) ?par6
  case pah6 => ((intro w hSw; (try dsimp only at hSw); go_simp); try with_reducible rfl)
  try simp only [Act.put, List.setIfInBounds_toArray, List.set_cons_zero, List.set_cons_succ]
  refine wpAnyH_take (i := 7) (oi := { dst := some 83, op := Op.call { callee := Callee.builtin Builtin.len, args := #[Operand.tmp 82], argTypes := #[55] }, type := 3, pos := "ref.go:116", after := #[{ on := 6, ground := Ground.data }], guard := none }) (v := ?pav7) rfl (by kernel_rfl) (by kernel_rfl) (by kernel_rfl) (fun _ _ _ h => h) (Or.inl ⟨by rfl, ?pah7⟩) (by assumption) ?par7
  case pah7 => ((intro w hSw; (try dsimp only at hSw); go_simp); try with_reducible rfl)
  try simp only [Act.put, List.setIfInBounds_toArray, List.set_cons_zero, List.set_cons_succ]
  refine wpAnyH_take (i := 8) (oi := { dst := some 84, op := Op.binOp BinOp.gtr 3 (Operand.tmp 83) (Operand.const (Value.int IntKind.i64 0)) 3, type := 4, pos := "ref.go:116", after := #[{ on := 7, ground := Ground.data }], guard := none }) (v := ?pav8) rfl (by kernel_rfl) (by kernel_rfl) (by kernel_rfl) (fun _ _ _ h => h) (Or.inl ⟨by rfl, ?pah8⟩) (by assumption) ?par8
  case pah8 => ((intro w hSw; (try dsimp only at hSw); go_simp); try with_reducible rfl)
  try simp only [Act.put, List.setIfInBounds_toArray, List.set_cons_zero, List.set_cons_succ]
  refine wpAnyH_ready (rs := [3]) (by kernel_rfl) (by simp) ?_
  refine AllReadyH.cons (o := { dst := some 79, op := Op.call { callee := Callee.builtin Builtin.append, args := #[Operand.const (Value.slice none 0 0), Operand.tmp 78], argTypes := #[55, 55] }, type := 55, pos := "ref.go:116", after := #[{ on := 2, ground := Ground.data }], guard := none }) rfl (fun K hK => ?_) AllReadyH.nil
  (refine step_appO EU8 rfl (.const (.slice none 0 0)) (.tmp 78) rfl W3.heap.size (.slice none 0 0) 0 [] rfl (World.ownsRow_nil _ _ _ _) s.bytes.p ol s.bytes.c (s.bytes.l.flatMap (fun n : Int => [Value.int .u8 n])) rfl (by rw [HFL.out]; omega) hoc HRO.out (u8s_ones _) (by unfold maxLen; omega) (by omega) (by simp) ?_); intro vp' w8 ho8 hg8 hs8; rw [Nat.zero_add, List.nil_append, HOL.out] at ho8; obtain ⟨sp, sc, rfl, hso, hst⟩ := sl_of_own (bytes := 1) ho8 (by rw [← HOL.out]; omega); rw [← HOL.out]; have HO8 := hid (And.intro hso (fun a ha => (hst a ha).1)); have HB8 := hid (hb8A hg8); clear ho8 hg8 hs8 hso hst; have HS8 : Hid (StBx W.heap.size s w8) := Below.blk_lt HB8.out HSB.out; have HPP := hid (HPUT.out w8 sp sc (decide (0 < ol)) (HB3.out.trans (HB8.out.mono HB3.out.size)) HO8.out.1 HO8.out.2); rw [← HOL.out] at HPP; refine hK.out _ _ HS8.out (fun hHeld => ?_)
  clear hK K
  try simp only [Act.put, List.setIfInBounds_toArray, List.set_cons_zero, List.set_cons_succ]
  refine wpAnyH_take (i := 4) (oi := { dst := some 80, op := Op.build 64 #[(0, Operand.const (Value.int IntKind.i64 4)), (6, Operand.tmp 79)], type := 64, pos := "ref.go:116", after := #[{ on := 3, ground := Ground.data }], guard := none }) (v := ?pav4) rfl (by kernel_rfl) (by kernel_rfl) (by kernel_rfl) (fun _ _ _ h => h) (Or.inl ⟨by rfl, ?pah4⟩) (by assumption) ?par4
  case pah4 => ((intro w hSw; (try dsimp only at hSw); go_simp); try with_reducible rfl)
  try simp only [Act.put, List.setIfInBounds_toArray, List.set_cons_zero, List.set_cons_succ]
  refine wpAnyH_ready (rs := [9]) (by kernel_rfl) (by simp) ?_
  refine AllReadyH.cons (o := { dst := some 85, op := Op.call { callee := Callee.value (Operand.func 44), args := #[Operand.tmp 76, Operand.tmp 80, Operand.tmp 84], argTypes := #[83, 64, 4] }, type := 0, pos := "ref.go:116", after := #[{ on := 0, ground := Ground.data }, { on := 4, ground := Ground.data }, { on := 8, ground := Ground.data }, { on := 3, ground := Ground.chain }], guard := none }) rfl (fun K hK => ?_) AllReadyH.nil
  go_simp; go_at_call 44; (with_reducible refine HPP.out.mono ?_); rintro e w6 hput; have HPT := hid hput; obtain ⟨rfl, ht6, -⟩ := hput; have HS6 : Hid (StBx W.heap.size s w6) := (ht6.2.tag _ _ (tag_row HS8.out) (by unfold isPT; decide)).trans HS8.out; clear ht6; refine hK.out _ _ HS6.out (fun hHeld => ?_)
  clear hK K
  try simp only [Act.put, List.setIfInBounds_toArray, List.set_cons_zero, List.set_cons_succ]
  refine wpAnyH_done (by kernel_rfl) ?_ _
  go_wp2_with fail
  go_end0
  exact RStmtT.of_put (HT3.out.trans (TrnP.below HB8.out H3.out.hz)) HPT.out (by rw [HR.out, HBAD.out]) (by have := HCS.out.1; omega)
/-- The statement's box and a value that came in, as they are read. -/
structure RDt (bs b q : Nat) (s : StR) (v : Vv) (w' : World) : Prop where
  st : StBx bs s w'
  v0 : w'.cell? ⟨b, q, none⟩ = some (.int .i64 v.add)
  v1 : w'.cell? ⟨b, q + 1, none⟩ = some (.string v.plus)
  v2 : w'.cell? ⟨b, q + 2, none⟩ = some (.string v.minus)
set_option maxRecDepth 20000 in
set_option maxHeartbeats 4000000 in
theorem rrow_data (h : RkN W base m X file line name) {n : Nat} (hn : Sm X n) (s : StR) (hn2 : n + s.cost ≤ 4000000) (hs : s.ok W) (hlow : s.low base) (hk : s.kind = 5) :
    Calls Try.prog 25 #[.pointer (some ⟨m, 0, none⟩), .agg s.cells.toArray] W (RStmtT W base m file line (X.pl.stmt file line name s) (n + s.cost)) := by
  obtain ⟨W1, hW1⟩ : ∃ W1, StB W W1 s := ⟨_, stb W s⟩
  obtain ⟨y0, y1, y2, y3, y4, y5, y6, y7⟩ := st_bat (b := W.heap.size) (s := s) hW1.blk
  have HW := hid hW1
  have HC := hid h
  have HN := hid hn
  have HCOST := hid hn2
  have h1 := h.below hW1.b
  have H1 := hid h1
  have HS := hid (hs.below hW1.b)
  have HLO := hid hlow
  have HFI : Hid (Calls Try.prog 43 #[.agg #[.slice s.labels.p s.labels.l.length s.labels.c, .int .i64 s.kind, .string s.l.name, .slice s.l.opers.p s.l.opers.l.length s.l.opers.c, .slice s.names.p s.names.l.length s.names.c, .int .i64 s.size, .slice s.values.p s.values.l.length s.values.c, .slice s.bytes.p s.bytes.l.length s.bytes.c]] W1 fun e w' => e = .returned (.tuple #[.agg #[.int .i64 (firstV s.values.l).add, .string (firstV s.values.l).plus, .string (firstV s.values.l).minus], .string (firstS s.names.l)]) ∧ Below W1.heap.size W1 w') := rfirst_any s (hs.below hW1.b).values.1 (hs.below hW1.b).names.1
  obtain ⟨R, hR⟩ : ∃ R, R = X.pl.stmt file line name s := ⟨_, rfl⟩
  have HR : Hid (R = (X.pl.data file line name s.size s.values.l, name)) := by unfold Hid; rw [hR]; unfold FP.stmt; rw [if_neg (by omega), if_neg (by omega), if_pos hk]
  have HK := hid hk
  have HCS : Hid (1 ≤ s.cost ∧ 1 + s.values.l.length ≤ s.cost ∧ 1 + s.names.l.length ≤ s.cost) := by unfold Hid StR.cost; omega
  have HPUT : Hid (∀ (w3 : World) (X' : FV) (v : Vv) (k : Nat), RkN w3 base m X' file line name → Sm X' (n + k) → k ≤ s.values.l.length →
      Calls Try.prog 44 #[.pointer (some ⟨m, 0, none⟩), .agg #[.int .i64 3, .int .i64 0, .int .i64 0, .string ⟨#[]⟩, .slice none 0 0, .int .i64 v.add, .string v.plus, .string v.minus, .int .i64 s.size, .slice none 0 0, .int .i64 0], .bool (!decide (v = v00))] w3
        (RPutT w3 base m file line name (X'.pl.data1 file line name s.size v) (n + k + 1))) := fun w3 X' v k h3 hsm hk => by
    have := rput_any h3 hsm (by have := HCOST.out; have := HCS.out.2.1; omega) ⟨3, 0, 0, ⟨⟨#[]⟩, ⟨none, 0, []⟩⟩, v, s.size, ⟨none, 0, []⟩, 0⟩ (PcOk.nil _ _ _ _ _ _ _ _ _) (!decide (v = v00))
    rw [Bool.not_not] at this
    exact this
  obtain ⟨fv, hfv⟩ : ∃ fv, fv = firstV s.values.l := ⟨_, rfl⟩
  obtain ⟨fs, hfs⟩ : ∃ fs, fs = firstS s.names.l := ⟨_, rfl⟩
  rw [← hfv, ← hfs] at HFI
  have HFV := hid (And.intro hfv hfs)
  rw [← hR]
  clear h hn hW1 hs h1 hR hk hlow hn2 hfv hfs
  go_enter Try.func25, Try.ntmps25
  go_upto_region 1 with (fail)
  rw [← HW.out.eq]
  go_upto_region 2 with (go_at_call 43; (with_reducible refine HFI.out.mono ?_); rintro e w2 ⟨rfl, hb2⟩)
  obtain ⟨W3, hW3⟩ : ∃ W3, W3 = w2.alloc (.cells #[.int .i64 fv.add, .string fv.plus, .string fv.minus] 62) := ⟨_, rfl⟩
  have hb3 : Below W1.heap.size W1 W3 := by rw [hW3]; exact hb2.alloc hb2.size _
  have hvb : ValBx w2.heap.size fv W3 := by rw [hW3]; exact heap_alloc_new _ _
  have hsb : StBx W.heap.size s W3 := Below.blk_lt hb3 HW.out.blk
  have HB3 := hid hb3
  have HVB := hid hvb
  have HSB := hid hsb
  have HT3 : Hid (Trn base W W3) := (TrnP.below HW.out.b HC.out.hz).trans (TrnP.below hb3 H1.out.hz)
  have H3 := hid (H1.out.below hb3)
  rw [← hW3]
  clear y0 y1 y2 y3 y4 y5 y6 y7 hb2
  obtain ⟨-, y1, -, -, y4, y5, y6, y7⟩ := st_bat hsb
  rw [HK.out] at y1
  generalize hbv : w2.heap.size = bv at *
  clear hb3 hW3 hbv
  have HV := hid HS.out.values.1
  have hcap := HS.out.values.1.cap
  have HI0 : Hid (∃ X', RkN W3 base m X' file line name ∧ X'.pl = X.pl.data file line name s.size (s.values.l.take 0) ∧ Sm X' (n + 0) ∧ Trn base W3 W3) := ⟨X, H3.out, rfl, HN.out, TrnP.refl _ _⟩
  obtain ⟨len, hlen⟩ : ∃ len, len = s.values.l.length := ⟨_, rfl⟩
  have HLEN := hid hlen
  have HCL : Hid (n + len ≤ 4000000) := by have := HCOST.out; have := HCS.out.2.1; unfold Hid; omega
  rw [← hlen] at hcap HPUT
  clear hvb hsb hlen y4 y5 y6 y7
  go_wp2_with (fail)
  go_loopw [10] (fun i wr => ∃ (k : Nat), k ≤ len ∧ i = .int .i64 k ∧ ∃ X', RkN wr base m X' file line name ∧ X'.pl = X.pl.data file line name s.size (s.values.l.take k) ∧ Sm X' (n + k) ∧ Trn base W3 wr) (fun i _ => len - (intOf i).toNat)
  case atStart => exact ⟨0, by omega, rfl, HI0.out⟩
  case round =>
    rename World => wr
    obtain ⟨k, hk, rfl, X4, h4, hp4, hs4, ht4⟩ := hrel
    have H4 := hid h4
    have HP4 := hid hp4
    have HS4 := hid hs4
    have HT4 := hid ht4
    clear HI0
    have hsb : StBx W.heap.size s wr := (ht4.2.tag _ _ (tag_row HSB.out) (by unfold isPT; decide)).trans HSB.out
    have y6 : wr.cell? ⟨W.heap.size, 6, none⟩ = some (.slice s.values.p len s.values.c) := by rw [HLEN.out]; exact (st_bat hsb).2.2.2.2.2.2.1
    by_cases hlt : k < len
    · have hkI : (k : Int) < len := by omega
      have hkl : k < s.values.l.length := by rw [← HLEN.out]; exact hlt
      have hrow := HV.out.row
      obtain ⟨b, o, hpe, hbl, -⟩ := hrow.at (by rw [flat_len Vv.cells 3 (fun _ => rfl)]; omega)
      rw [hpe] at hrow
      obtain ⟨v0, v1, v2⟩ := vv_cells hrow k hkl
      have hbb : b < base := HLO.out.values ⟨b, o, none⟩ hpe (by intro e; rw [e] at hkl; simp at hkl)
      have hkeep : wr.heap[b]? = W1.heap[b]? := (ht4.1.block b hbb).trans (HB3.out.block b hbl)
      have HRD : Hid (RDt W.heap.size b (o + k * 3) s s.values.l[k] wr.drew) := ⟨hsb, (World.cell?_of_block (a := ⟨b, o + k * 3, none⟩) hkeep).trans v0, (World.cell?_of_block (a := ⟨b, o + k * 3 + 1, none⟩) hkeep).trans v1, (World.cell?_of_block (a := ⟨b, o + k * 3 + 2, none⟩) hkeep).trans v2⟩
      have HST : Hid (X.pl.data file line name s.size (s.values.l.take (k + 1)) = (X.pl.data file line name s.size (s.values.l.take k)).data1 file line name s.size s.values.l[k]) := foldl_take _ _ _ _ hkl
      generalize s.values.l[k] = v at *
      have HP := hid (HPUT.out wr.drew X4 v k (h4.below (Below.refl _ _).drew) hs4 (by omega))
      have a6 : ∀ w' : World, RDt W.heap.size b (o + k * 3) s v w' → w'.cell? ⟨W.heap.size, 6, none⟩ = some (.slice (some ⟨b, o, none⟩) len s.values.c) := fun _ h => by rw [← hpe, HLEN.out]; exact (st_bat h.st).2.2.2.2.2.2.1
      have a5 : ∀ w' : World, RDt W.heap.size b (o + k * 3) s v w' → w'.cell? ⟨W.heap.size, 5, none⟩ = some (.int .i64 s.size) := fun _ h => (st_bat h.st).2.2.2.2.2.1
      have a0 : ∀ w' : World, RDt W.heap.size b (o + k * 3) s v w' → w'.cell? ⟨b, o + k * 3, none⟩ = some (.int .i64 v.add) := fun _ h => h.v0
      have a1 : ∀ w' : World, RDt W.heap.size b (o + k * 3) s v w' → w'.cell? ⟨b, o + k * 3 + 1, none⟩ = some (.string v.plus) := fun _ h => h.v1
      have a2 : ∀ w' : World, RDt W.heap.size b (o + k * 3) s v w' → w'.cell? ⟨b, o + k * 3 + 2, none⟩ = some (.string v.minus) := fun _ h => h.v2
      have heq : ∀ w1 : World, (binOp .neq 62 (.agg #[.int .i64 v.add, .string v.plus, .string v.minus]) (.agg #[.int .i64 0, .string ⟨#[]⟩, .string ⟨#[]⟩])).run Try.prog w1 = .ok (.bool (!decide (v = v00))) w1 := fun w1 => run_neq_vv v v00 w1
      have hbw : b < wr.heap.size := by have := h4.hz; omega
      have HBB := hid hbb
      clear h4 hp4 hs4 ht4 hrow v0 v1 v2 hkeep hsb hkl hpe
      generalize hdd : decide (v = v00) = dd at *
      clear hdd
      go_wp2_with (fail)
      go_upto_region 15 with (fail)
      refine wp_region_held_drew (S := RDt W.heap.size b (o + k * 3) s v) (by kernel_rfl) HRD.out (fun hHeld => ?_)
      refine wpAnyH_take (i := 0) (oi := { dst := some 57, op := Op.move (Operand.tmp 0), type := 83, pos := "ref.go:113", after := #[], guard := none }) (v := ?pav0) rfl (by kernel_rfl) (by kernel_rfl) (by kernel_rfl) (fun _ _ _ h => h) (Or.inl ⟨by rfl, ?pah0⟩) (by assumption) ?par0
      case pah0 => ((intro w hSw; (try dsimp only at hSw); go_simp); try with_reducible rfl)
      try simp only [Act.put, List.setIfInBounds_toArray, List.set_cons_zero, List.set_cons_succ]
      refine wpAnyH_take (i := 1) (oi := { dst := some 58, op := Op.fieldAddr 57 (Operand.tmp 3) 5, type := 0, pos := "ref.go:113", after := #[], guard := none }) (v := ?pav1) rfl (by kernel_rfl) (by kernel_rfl) (by kernel_rfl) (fun _ _ _ h => h) (Or.inl ⟨by rfl, ?pah1⟩) (by assumption) ?par1
      case pah1 => ((intro w hSw; (try dsimp only at hSw); go_simp); try with_reducible rfl)
      try simp only [Act.put, List.setIfInBounds_toArray, List.set_cons_zero, List.set_cons_succ]
      refine wpAnyH_take (i := 2) (oi := { dst := some 59, op := Op.load 54 (Operand.tmp 58), type := 54, pos := "ref.go:113", after := #[{ on := 1, ground := Ground.data }], guard := none }) (v := ?pav2) rfl (by kernel_rfl) (by kernel_rfl) (by kernel_rfl) (fun _ _ _ h => h) (Or.inl ⟨by rfl, ?pah2⟩) (by assumption) ?par2
      case pah2 => ((intro w hSw; (try dsimp only at hSw); go_simp); try with_reducible rfl)
      try simp only [Act.put, List.setIfInBounds_toArray, List.set_cons_zero, List.set_cons_succ]
      refine wpAnyH_take (i := 3) (oi := { dst := some 60, op := Op.move (Operand.tmp 10), type := 3, pos := "ref.go:113", after := #[], guard := none }) (v := ?pav3) rfl (by kernel_rfl) (by kernel_rfl) (by kernel_rfl) (fun _ _ _ h => h) (Or.inl ⟨by rfl, ?pah3⟩) (by assumption) ?par3
      case pah3 => ((intro w hSw; (try dsimp only at hSw); go_simp); try with_reducible rfl)
      try simp only [Act.put, List.setIfInBounds_toArray, List.set_cons_zero, List.set_cons_succ]
      refine wpAnyH_take (i := 4) (oi := { dst := some 61, op := Op.indexAddr 54 (Operand.tmp 59) (Operand.tmp 60), type := 0, pos := "ref.go:113", after := #[{ on := 2, ground := Ground.data }, { on := 3, ground := Ground.data }], guard := none }) (v := ?pav4) rfl (by kernel_rfl) (by kernel_rfl) (by kernel_rfl) (fun _ _ _ h => h) (Or.inl ⟨by rfl, ?pah4⟩) (by assumption) ?par4
      case pah4 => ((intro w hSw; (try dsimp only at hSw); go_simp); try with_reducible rfl)
      try simp only [Act.put, List.setIfInBounds_toArray, List.set_cons_zero, List.set_cons_succ]
      refine wpAnyH_take (i := 5) (oi := { dst := some 62, op := Op.load 62 (Operand.tmp 61), type := 62, pos := "ref.go:113", after := #[{ on := 4, ground := Ground.data }], guard := none }) (v := ?pav5) rfl (by kernel_rfl) (by kernel_rfl) (by kernel_rfl) (fun _ _ _ h => h) (Or.inl ⟨by rfl, ?pah5⟩) (by assumption) ?par5
      case pah5 => ((intro w hSw; (try dsimp only at hSw); go_simp); try with_reducible rfl)
      try simp only [Act.put, List.setIfInBounds_toArray, List.set_cons_zero, List.set_cons_succ]
      refine wpAnyH_take (i := 6) (oi := { dst := some 63, op := Op.fieldAddr 57 (Operand.tmp 3) 4, type := 0, pos := "ref.go:113", after := #[], guard := none }) (v := ?pav6) rfl (by kernel_rfl) (by kernel_rfl) (by kernel_rfl) (fun _ _ _ h => h) (Or.inl ⟨by rfl, ?pah6⟩) (by assumption) ?par6
      case pah6 => ((intro w hSw; (try dsimp only at hSw); go_simp); try with_reducible rfl)
      try simp only [Act.put, List.setIfInBounds_toArray, List.set_cons_zero, List.set_cons_succ]
      refine wpAnyH_take (i := 7) (oi := { dst := some 64, op := Op.load 3 (Operand.tmp 63), type := 3, pos := "ref.go:113", after := #[{ on := 6, ground := Ground.data }], guard := none }) (v := ?pav7) rfl (by kernel_rfl) (by kernel_rfl) (by kernel_rfl) (fun _ _ _ h => h) (Or.inl ⟨by rfl, ?pah7⟩) (by assumption) ?par7
      case pah7 => ((intro w hSw; (try dsimp only at hSw); go_simp); try with_reducible rfl)
      try simp only [Act.put, List.setIfInBounds_toArray, List.set_cons_zero, List.set_cons_succ]
      refine wpAnyH_take (i := 8) (oi := { dst := some 65, op := Op.build 64 #[(0, Operand.const (Value.int IntKind.i64 3)), (4, Operand.tmp 62), (5, Operand.tmp 64)], type := 64, pos := "ref.go:113", after := #[{ on := 5, ground := Ground.data }, { on := 7, ground := Ground.data }], guard := none }) (v := ?pav8) rfl (by kernel_rfl) (by kernel_rfl) (by kernel_rfl) (fun _ _ _ h => h) (Or.inl ⟨by rfl, ?pah8⟩) (by assumption) ?par8
      case pah8 => ((intro w hSw; (try dsimp only at hSw); go_simp); try with_reducible rfl)
      try simp only [Act.put, List.setIfInBounds_toArray, List.set_cons_zero, List.set_cons_succ]
      refine wpAnyH_take (i := 9) (oi := { dst := some 66, op := Op.fieldAddr 57 (Operand.tmp 3) 5, type := 0, pos := "ref.go:113", after := #[], guard := none }) (v := ?pav9) rfl (by kernel_rfl) (by kernel_rfl) (by kernel_rfl) (fun _ _ _ h => h) (Or.inl ⟨by rfl, ?pah9⟩) (by assumption) ?par9
      case pah9 => ((intro w hSw; (try dsimp only at hSw); go_simp); try with_reducible rfl)
      try simp only [Act.put, List.setIfInBounds_toArray, List.set_cons_zero, List.set_cons_succ]
      refine wpAnyH_take (i := 10) (oi := { dst := some 67, op := Op.load 54 (Operand.tmp 66), type := 54, pos := "ref.go:113", after := #[{ on := 9, ground := Ground.data }], guard := none }) (v := ?pav10) rfl (by kernel_rfl) (by kernel_rfl) (by kernel_rfl) (fun _ _ _ h => h) (Or.inl ⟨by rfl, ?pah10⟩) (by assumption) ?par10
      case pah10 => ((intro w hSw; (try dsimp only at hSw); go_simp); try with_reducible rfl)
      try simp only [Act.put, List.setIfInBounds_toArray, List.set_cons_zero, List.set_cons_succ]
      refine wpAnyH_take (i := 11) (oi := { dst := some 68, op := Op.move (Operand.tmp 10), type := 3, pos := "ref.go:113", after := #[], guard := none }) (v := ?pav11) rfl (by kernel_rfl) (by kernel_rfl) (by kernel_rfl) (fun _ _ _ h => h) (Or.inl ⟨by rfl, ?pah11⟩) (by assumption) ?par11
      case pah11 => ((intro w hSw; (try dsimp only at hSw); go_simp); try with_reducible rfl)
      try simp only [Act.put, List.setIfInBounds_toArray, List.set_cons_zero, List.set_cons_succ]
      refine wpAnyH_take (i := 12) (oi := { dst := some 69, op := Op.indexAddr 54 (Operand.tmp 67) (Operand.tmp 68), type := 0, pos := "ref.go:113", after := #[{ on := 10, ground := Ground.data }, { on := 11, ground := Ground.data }], guard := none }) (v := ?pav12) rfl (by kernel_rfl) (by kernel_rfl) (by kernel_rfl) (fun _ _ _ h => h) (Or.inl ⟨by rfl, ?pah12⟩) (by assumption) ?par12
      case pah12 => ((intro w hSw; (try dsimp only at hSw); go_simp); try with_reducible rfl)
      try simp only [Act.put, List.setIfInBounds_toArray, List.set_cons_zero, List.set_cons_succ]
      refine wpAnyH_take (i := 13) (oi := { dst := some 70, op := Op.load 62 (Operand.tmp 69), type := 62, pos := "ref.go:113", after := #[{ on := 12, ground := Ground.data }], guard := none }) (v := ?pav13) rfl (by kernel_rfl) (by kernel_rfl) (by kernel_rfl) (fun _ _ _ h => h) (Or.inl ⟨by rfl, ?pah13⟩) (by assumption) ?par13
      case pah13 => ((intro w hSw; (try dsimp only at hSw); go_simp); try with_reducible rfl)
      try simp only [Act.put, List.setIfInBounds_toArray, List.set_cons_zero, List.set_cons_succ]
      refine wpAnyH_take (i := 14) (oi := { dst := some 71, op := Op.build 62 #[], type := 62, pos := "ref.go:113", after := #[], guard := none }) (v := ?pav14) rfl (by kernel_rfl) (by kernel_rfl) (by kernel_rfl) (fun _ _ _ h => h) (Or.inl ⟨by rfl, ?pah14⟩) (by assumption) ?par14
      case pah14 => ((intro w hSw; (try dsimp only at hSw); go_simp); try with_reducible rfl)
      try simp only [Act.put, List.setIfInBounds_toArray, List.set_cons_zero, List.set_cons_succ]
      refine wpAnyH_take (i := 15) (oi := { dst := some 72, op := Op.binOp BinOp.neq 62 (Operand.tmp 70) (Operand.tmp 71) 62, type := 4, pos := "ref.go:113", after := #[{ on := 13, ground := Ground.data }, { on := 14, ground := Ground.data }], guard := none }) (v := ?pav15) rfl (by kernel_rfl) (by kernel_rfl) (by kernel_rfl) (fun _ _ _ h => h) (Or.inl ⟨by rfl, ?pah15⟩) (by assumption) ?par15
      case pah15 => ((intro w hSw; (try dsimp only at hSw); go_simp); try with_reducible rfl)
      try simp only [Act.put, List.setIfInBounds_toArray, List.set_cons_zero, List.set_cons_succ]
      refine wpAnyH_ready (rs := [16]) (by kernel_rfl) (by simp) ?_
      refine AllReadyH.cons (o := { dst := some 73, op := Op.call { callee := Callee.value (Operand.func 44), args := #[Operand.tmp 57, Operand.tmp 65, Operand.tmp 72], argTypes := #[83, 64, 4] }, type := 0, pos := "ref.go:113", after := #[{ on := 0, ground := Ground.data }, { on := 8, ground := Ground.data }, { on := 15, ground := Ground.data }], guard := none }) rfl (fun K hK => ?_) AllReadyH.nil
      go_simp; go_at_call 44; (with_reducible refine HP.out.mono ?_); rintro e w6 ⟨rfl, ht6, X6, h6, hp6, hs6⟩; have H6 := hid (And.intro ht6 (And.intro h6 (And.intro hp6 hs6))); have hk6 : w6.heap[b]? = wr.heap[b]? := ht6.1.block b HBB.out; have HV6 : Hid (RDt W.heap.size b (o + k * 3) s v w6) := ⟨(ht6.2.tag _ _ (tag_row HRD.out.st) (by unfold isPT; decide)).trans HRD.out.st, (World.cell?_of_block (a := ⟨b, o + k * 3, none⟩) hk6).trans HRD.out.v0, (World.cell?_of_block (a := ⟨b, o + k * 3 + 1, none⟩) hk6).trans HRD.out.v1, (World.cell?_of_block (a := ⟨b, o + k * 3 + 2, none⟩) hk6).trans HRD.out.v2⟩; clear ht6 h6 hp6 hs6 hk6; refine hK.out _ _ HV6.out (fun hHeld => ?_)
      clear hK K
      try simp only [Act.put, List.setIfInBounds_toArray, List.set_cons_zero, List.set_cons_succ]
      refine wpAnyH_done (by kernel_rfl) ?_ _
      go_wp2_with fail
      exact ⟨⟨k + 1, by omega, by go_num, _, H6.out.2.1, by rw [H6.out.2.2.1, HST.out, HP4.out], H6.out.2.2.2, (HT4.out.trans (TrnP.below (Below.refl _ wr).drew H4.out.hz)).trans H6.out.1⟩, by simp [intOf]; omega⟩
    · have hke : k = len := by omega
      subst hke
      go_wp2_with fail
      go_end0
      refine ⟨rfl, HT3.out.trans HT4.out, X4, by rw [HR.out]; exact H4.out, ?_, HS4.out.mono ?_⟩
      · rw [HR.out, HP4.out, HLEN.out, List.take_length]
      · have := HCS.out.2.1; rw [HLEN.out]; omega
end Go.Proofs.Ythlingholhjcnaa
namespace Go.Proofs.Ythlingholhjcnaa
open Go.RowKit
variable {W W' w w' : World} {base m : Nat} {X X' : FV} {file line : Int} {name : ByteArray}

set_option maxRecDepth 20000 in
set_option maxHeartbeats 4000000 in
theorem rrow_other (h : RkN W base m X file line name) {n : Nat} (hn : Sm X n) (s : StR) (hs : s.ok W) (hk : ¬ (1 ≤ s.kind ∧ s.kind ≤ 7)) :
    Calls Try.prog 25 #[.pointer (some ⟨m, 0, none⟩), .agg s.cells.toArray] W (RStmtT W base m file line (X.pl.stmt file line name s) (n + s.cost)) := by
  obtain ⟨W1, hW1⟩ : ∃ W1, StB W W1 s := ⟨_, stb W s⟩
  obtain ⟨y0, y1, y2, y3, y4, y5, y6, y7⟩ := st_bat (b := W.heap.size) (s := s) hW1.blk
  have HW := hid hW1
  have HC := hid h
  have HN := hid hn
  have h1 := h.below hW1.b
  have H1 := hid h1
  have HFI : Hid (Calls Try.prog 43 #[.agg #[.slice s.labels.p s.labels.l.length s.labels.c, .int .i64 s.kind, .string s.l.name, .slice s.l.opers.p s.l.opers.l.length s.l.opers.c, .slice s.names.p s.names.l.length s.names.c, .int .i64 s.size, .slice s.values.p s.values.l.length s.values.c, .slice s.bytes.p s.bytes.l.length s.bytes.c]] W1 fun e w' => e = .returned (.tuple #[.agg #[.int .i64 (firstV s.values.l).add, .string (firstV s.values.l).plus, .string (firstV s.values.l).minus], .string (firstS s.names.l)]) ∧ Below W1.heap.size W1 w') := rfirst_any s (hs.below hW1.b).values.1 (hs.below hW1.b).names.1
  obtain ⟨R, hR⟩ : ∃ R, R = X.pl.stmt file line name s := ⟨_, rfl⟩
  have HR : Hid (R = (X.pl, name)) := by unfold Hid; rw [hR]; unfold FP.stmt; rw [if_neg (by omega), if_neg (by omega), if_neg (by omega), if_neg (by omega), if_neg (by omega), if_neg (by omega), if_neg (by omega)]
  have e1 : (s.kind == 1) = false := by simp; omega
  have e2 : (s.kind == 2) = false := by simp; omega
  have e3 : (s.kind == 3) = false := by simp; omega
  have e4 : (s.kind == 4) = false := by simp; omega
  have e5 : (s.kind == 5) = false := by simp; omega
  have e6 : (s.kind == 6) = false := by simp; omega
  have e7 : (s.kind == 7) = false := by simp; omega
  obtain ⟨fv, hfv⟩ : ∃ fv, fv = firstV s.values.l := ⟨_, rfl⟩
  obtain ⟨fs, hfs⟩ : ∃ fs, fs = firstS s.names.l := ⟨_, rfl⟩
  rw [← hfv, ← hfs] at HFI
  rw [← hR]
  clear h hn hW1 hs h1 hR hk hfv hfs
  go_enter Try.func25, Try.ntmps25
  go_upto_region 1 with (fail)
  rw [← HW.out.eq]
  go_upto_region 2 with (go_at_call 43; (with_reducible refine HFI.out.mono ?_); rintro e w2 ⟨rfl, hb2⟩)
  obtain ⟨W3, hW3⟩ : ∃ W3, W3 = w2.alloc (.cells #[.int .i64 fv.add, .string fv.plus, .string fv.minus] 62) := ⟨_, rfl⟩
  have hb3 : Below W1.heap.size W1 W3 := by rw [hW3]; exact hb2.alloc hb2.size _
  have hsb : StBx W.heap.size s W3 := Below.blk_lt hb3 HW.out.blk
  have HB3 := hid hb3
  have HT3 : Hid (Trn base W W3) := (TrnP.below HW.out.b HC.out.hz).trans (TrnP.below hb3 H1.out.hz)
  have H3 := hid (H1.out.below hb3)
  rw [← hW3]
  clear y0 y1 y2 y3 y4 y5 y6 y7 hb2
  obtain ⟨-, y1, -, -, -, -, -, -⟩ := st_bat hsb
  generalize hbv : w2.heap.size = bv at *
  clear hb3 hW3 hbv hsb
  go_wp2_with (fail)
  go_end0
  exact ⟨rfl, HT3.out, X, by rw [HR.out]; exact H3.out, by rw [HR.out], HN.out.mono (Nat.le_add_right _ _)⟩
theorem rrow_any (h : RkN W base m X file line name) {n : Nat} (hn : Sm X n) (s : StR) (hn2 : n + s.cost ≤ 4000000) (hs : s.ok W) (hlow : s.low base) :
    Calls Try.prog 25 #[.pointer (some ⟨m, 0, none⟩), .agg s.cells.toArray] W (RStmtT W base m file line (X.pl.stmt file line name s) (n + s.cost)) := by
  by_cases hk : 1 ≤ s.kind ∧ s.kind ≤ 7
  · rcases (by omega : s.kind = 1 ∨ s.kind = 2 ∨ s.kind = 3 ∨ s.kind = 4 ∨ s.kind = 5 ∨ s.kind = 6 ∨ s.kind = 7) with e | e | e | e | e | e | e
    · exact rrow_inst h hn s hn2 hs hlow e
    · exact rrow_section h hn s hn2 hs hlow e
    · exact rrow_global h hn s hn2 hs hlow e
    · exact rrow_align h hn s hn2 hs hlow e
    · exact rrow_data h hn s hn2 hs hlow e
    · exact rrow_ascii h hn s hn2 hs hlow e
    · exact rrow_equ h hn s hn2 hs hlow e
  · exact rrow_other h hn s hs hk
theorem rone_start (W : World) (file : Int) : ∃ W3, W3 = (W.alloc (.cells #[.slice none 0 0, .slice none 0 0, .slice none 0 0] 32)).alloc (.cells #[.slice none 0 0, .slice none 0 0, .slice none 0 0, .slice none 0 0, .int .i64 file, .int .i64 0, .string text0] 85) ∧
    RkN W3 W.heap.size (W.heap.size + 1) nil0 file 0 text0 ∧ W3.heap[W.heap.size]? = some (.cells #[.slice none 0 0, .slice none 0 0, .slice none 0 0] 32 (0, 0)) ∧ Below W.heap.size W W3 := by
  refine ⟨_, rfl, ⟨heap_newAt _ _ _ (by simp), FIs.nil _ _, by omega⟩, ?_, ((Below.refl _ _).alloc (Nat.le_refl _) _).alloc (by simp) _⟩
  exact (Below.heap_alloc _ _ _ (by simp)).trans (heap_alloc_new _ _)
set_option maxRecDepth 20000 in
set_option maxHeartbeats 8000000 in
theorem rone_any (file : Int) (p : Option Addr) (c : Nat) (rows : List RwR) (W : World) (hrow : Row W p (rows.flatMap RwR.cells)) (hok : ∀ r ∈ rows, r.s.ok W) (hlen : rows.length ≤ 1000000) (hcost : costs rows ≤ 3000000) :
    Calls Try.prog 10 #[.int .i64 file, .slice p rows.length c] W (OneT W (FP.rows file rows).1 (costs rows)) := by
  obtain ⟨W3, hW3, h3, hu3, hb3⟩ := rone_start W file
  unfold text0 at hW3
  have HW := hid hW3
  have HU := hid hu3
  have HB3 := hid hb3
  have HROW := hid hrow
  have HOK := hid hok
  have HI0 : Hid (∃ (X' : FV) (line : Int) (name : ByteArray), RkN W3 W.heap.size (W.heap.size + 1) X' file line name ∧ (X'.pl, name) = FP.rows file (rows.take 0) ∧ Sm X' (costs (rows.take 0)) ∧ Trn W.heap.size W3 W3) :=
    ⟨nil0, 0, text0, h3, rfl, ⟨Nat.le_refl _, Nat.le_refl _, Nat.le_refl _, Nat.le_refl _, fun y hy => (by cases hy)⟩, TrnP.refl _ _⟩
  have hz3 : W3.heap.size = W.heap.size + 2 := by rw [hW3]; simp
  clear hW3 h3 hu3 hb3 hrow hok
  obtain ⟨len, hl⟩ : ∃ len, len = rows.length := ⟨_, rfl⟩
  have HLEN := hid hl
  rw [← hl] at hlen ⊢
  clear hl
  go_enter Try.func10, Try.ntmps10
  go_upto_region 2 with (fail)
  rw [← HW.out]
  have HMU : Hid (W.heap.size + 1 ≠ W.heap.size) := by unfold Hid; omega
  generalize hmd : W.heap.size + 1 = m at *
  have HMD := hid hmd
  clear hmd
  go_wp2_with (fail)
  go_loopw [7] (fun i wr => ∃ (k : Nat), k ≤ len ∧ i = .int .i64 k ∧ ∃ (X' : FV) (line : Int) (name : ByteArray), RkN wr W.heap.size m X' file line name ∧ (X'.pl, name) = FP.rows file (rows.take k) ∧ Sm X' (costs (rows.take k)) ∧ Trn W.heap.size W3 wr) (fun i _ => len - (intOf i).toNat)
  case atStart => exact ⟨0, by omega, rfl, HI0.out⟩
  case round =>
    rename World => wr
    obtain ⟨k, hk, rfl, X3, line, name, h3, hp3, hs3, ht3⟩ := hrel
    have H3 := hid h3
    have HP3 := hid hp3
    have HS3 := hid hs3
    have HT3 := hid ht3
    clear HI0
    by_cases hlt : k < len
    · have hkI : (k : Int) < len := by omega
      have hkl : k < rows.length := by rw [← HLEN.out]; exact hlt
      have hbW : Below W.heap.size W wr := HB3.out.trans (ht3.1)
      obtain ⟨b, o, rfl, hbl, -⟩ := HROW.out.at (by rw [flat_len RwR.cells 9 (fun _ => rfl)]; omega)
      have hrow2 := HROW.out.below hbW
      obtain ⟨u0, u1, u2, u3, u4, u5, u6, u7, u8⟩ := rw_at hrow2 k hkl
      have HOKK := hid (HOK.out _ (List.getElem_mem hkl))
      have HCO := hid (costs_take rows k hkl)
      have HCL := hid (costs_le rows (k + 1))
      have HST : Hid (FP.rows file (rows.take (k + 1)) = FP.row file (FP.rows file (rows.take k)) rows[k]) := foldl_take _ _ _ _ hkl
      generalize rows[k] = r at *
      have hml : m < wr.heap.size := h3.lt
      have z6 := cell_of_row _ _ 5 _ _ _ h3.head
      have zf6 := frozen_of_row _ _ 5 _ _ h3.head
      have hbm : b ≠ m := by have := h3.ge; omega
      obtain ⟨W6, hW6⟩ : ∃ W6, W6 = (wr.setCell ⟨m, 5, none⟩ (.int .i64 r.line)).alloc (.cells #[.slice r.s.labels.p r.s.labels.l.length r.s.labels.c, .int .i64 r.s.kind, .string r.s.l.name, .slice r.s.l.opers.p r.s.l.opers.l.length r.s.l.opers.c, .slice r.s.names.p r.s.names.l.length r.s.names.c, .int .i64 r.s.size, .slice r.s.values.p r.s.values.l.length r.s.values.c, .slice r.s.bytes.p r.s.bytes.l.length r.s.bytes.c] 57) := ⟨_, rfl⟩
      obtain ⟨h5, ht5⟩ := h3.reline r.line
      have h6 : RkN W6 W.heap.size m X3 file r.line name := by rw [hW6]; exact h5.below (alloc_below _ _)
      have HBX : Hid (StBx wr.heap.size r.s W6) := by unfold Hid StBx; rw [hW6]; exact heap_newAt _ _ _ (by simp)
      have HT6 : Hid (Trn W.heap.size wr W6) := by unfold Hid; rw [hW6]; exact ht5.trans (TrnP.below (alloc_below _ _) h5.hz)
      have H6 := hid h6
      have HW6 := hid hW6
      clear h3 hp3 hs3 ht3 hrow2 h5 h6 ht5 hW6 hbW
      go_wp2_with (fail)
      rw [← HW6.out]
      obtain ⟨nl, hnl⟩ : ∃ nl, nl = r.s.labels.l.length := ⟨_, rfl⟩
      have HNL := hid hnl
      clear hnl u0 u1 u2 u3 u4 u5 u6 u7 u8 z6 zf6 hml hbm
      have HJ0 : Hid (∃ X', RkN W6 W.heap.size m X' file r.line name ∧ X'.pl = X3.pl.marks file r.line name (r.s.labels.l.take 0) ∧ Sm X' (costs (rows.take k) + 0) ∧ Trn W.heap.size W6 W6) := ⟨X3, H6.out, rfl, HS3.out, TrnP.refl _ _⟩
      have HLOW := hid HOKK.out.low
      have HCT : Hid (costs (rows.take k) + nl + r.s.cost ≤ 3000000) := by
        have h1 := HCO.out; have h2 := HCL.out
        unfold RwR.cost at h1
        rw [← HNL.out] at h1
        unfold Hid; omega
      have hnl3 : nl ≤ 3000000 := by have := HCT.out; omega
      have HMK : Hid (∀ (w3 : World) (X' : FV) (j : Nat) (nmx : ByteArray), RkN w3 W.heap.size m X' file r.line name → Sm X' (costs (rows.take k) + j) → j ≤ nl →
          Calls Try.prog 24 #[.pointer (some ⟨m, 0, none⟩), .string nmx, .bool false, .agg #[.int .i64 0, .string ⟨#[]⟩, .string ⟨#[]⟩]] w3
            (RPutT w3 W.heap.size m file r.line name (X'.pl.mark file r.line name nmx false v00) (costs (rows.take k) + j + 1))) := fun w3 X' j nmx h3 hs hj =>
        rmark_any h3 hs (by have := HCT.out; omega) nmx false v00
      go_loopw [9] (fun i wy => ∃ (j : Nat), j ≤ nl ∧ i = .int .i64 j ∧ ∃ X', RkN wy W.heap.size m X' file r.line name ∧ X'.pl = X3.pl.marks file r.line name (r.s.labels.l.take j) ∧ Sm X' (costs (rows.take k) + j) ∧ Trn W.heap.size W6 wy) (fun i _ => nl - (intOf i).toNat)
      case atStart => exact ⟨0, by omega, rfl, HJ0.out⟩
      case round =>
        rename World => wy
        obtain ⟨j, hj, rfl, X4, h4, hp4, hs4, ht4⟩ := hrel
        have H4 := hid h4
        have HP4 := hid hp4
        have HS4 := hid hs4
        have HT4 := hid ht4
        have HWY : Hid (Below W.heap.size W wy) := ((HB3.out.trans HT3.out.1).trans HT6.out.1).trans ht4.1
        clear HJ0
        have hsb : StBx wr.heap.size r.s wy := (ht4.2.tag _ _ (tag_row HBX.out) (by unfold isPT; decide)).trans HBX.out
        have HSB := hid hsb
        have y0 : wy.cell? ⟨wr.heap.size, 0, none⟩ = some (.slice r.s.labels.p nl r.s.labels.c) := by rw [HNL.out]; exact (st_bat hsb).1
        by_cases hjl : j < nl
        · have hjI : (j : Int) < nl := by omega
          have hjl2 : j < r.s.labels.l.length := by rw [← HNL.out]; exact hjl
          have hlab := (HOKK.out.below HWY.out).labels.1
          have hrl := hlab.row
          rw [← map_flat1] at hrl
          obtain ⟨b2, o2, hpe, hbl2, -⟩ := hrl.at (by simpa using (by omega : 0 < r.s.labels.l.length))
          have v0 := str_at hlab hpe j hjl2
          have HSJ : Hid (X3.pl.marks file r.line name (r.s.labels.l.take (j + 1)) = (X3.pl.marks file r.line name (r.s.labels.l.take j)).mark file r.line name r.s.labels.l[j] false v00) := foldl_take _ _ _ _ hjl2
          generalize r.s.labels.l[j] = nmx at *
          have HP := hid (HMK.out wy X4 j nmx h4 hs4 (by omega))
          have y0' : wy.cell? ⟨wr.heap.size, 0, none⟩ = some (.slice (some ⟨b2, o2, none⟩) nl r.s.labels.c) := by rw [← hpe]; exact y0
          clear y0
          rw [hpe] at *
          clear h4 hp4 hs4 ht4 hlab hrl hpe hjl2 hsb
          go_wp2_with (go_at_call 24; (with_reducible refine HP.out.mono ?_); rintro e w7 ⟨rfl, ht7, X7, h7, hp7, hs7⟩; have H7 := hid (And.intro h7 (And.intro hp7 (And.intro hs7 ht7))); clear h7 hp7 hs7 ht7)
          exact ⟨⟨j + 1, by omega, by go_num, X7, H7.out.1, by rw [H7.out.2.1, HSJ.out, HP4.out], H7.out.2.2.1, HT4.out.trans H7.out.2.2.2⟩, by simp [intOf]; omega⟩
        · have hje : j = nl := by omega
          subst hje
          clear y0
          obtain ⟨q0, q1, q2, q3, q4, q5, q6, q7⟩ := st_bat hsb
          have hjn : ¬ ((j : Int) < (r.s.labels.l.length : Int)) := by have := HNL.out; omega
          have HSTM : Hid (Calls Try.prog 25 #[.pointer (some ⟨m, 0, none⟩), .agg #[.slice r.s.labels.p r.s.labels.l.length r.s.labels.c, .int .i64 r.s.kind, .string r.s.l.name, .slice r.s.l.opers.p r.s.l.opers.l.length r.s.l.opers.c, .slice r.s.names.p r.s.names.l.length r.s.names.c, .int .i64 r.s.size, .slice r.s.values.p r.s.values.l.length r.s.values.c, .slice r.s.bytes.p r.s.bytes.l.length r.s.bytes.c]] wy
              (RStmtT wy W.heap.size m file r.line (X4.pl.stmt file r.line name r.s) (costs (rows.take k) + j + r.s.cost))) :=
            rrow_any h4 hs4 r.s (by have := HCT.out; omega) (HOKK.out.below HWY.out) HLOW.out
          rw [HNL.out] at HSTM
          clear h4 hp4 hs4 ht4 hsb hj hnl3
          go_wp2_with (go_at_call 25; (with_reducible refine HSTM.out.mono ?_); rintro e w7 ⟨rfl, ht7, X7, h7, hp7, hs7⟩; have H7 := hid (And.intro h7 (And.intro hp7 (And.intro hs7 ht7))); clear h7 hp7 hs7 ht7)
          refine ⟨⟨k + 1, by omega, by go_num, X7, r.line, _, H7.out.1, ?_, ?_, ((HT3.out.trans HT6.out).trans HT4.out).trans H7.out.2.2.2⟩, by simp [intOf]; omega⟩
          · rw [HST.out, H7.out.2.1, HP4.out, HNL.out, List.take_length, ← HP3.out]
            rfl
          · have := H7.out.2.2.1
            rw [HCO.out]
            unfold RwR.cost
            rw [← Nat.add_assoc]
            exact this
    · have hke : k = len := by omega
      subst hke
      have hu : wr.heap[W.heap.size]? = some (.cells #[.slice none 0 0, .slice none 0 0, .slice none 0 0] 32 (0, 0)) := (ht3.2.tag _ _ (tag_row HU.out) (by unfold isPT; decide)).trans HU.out
      have HUW := hid hu
      obtain ⟨p0, e0, hpv, -⟩ := own_shape h3.is.parts
      obtain ⟨p1, e1, hmv, -⟩ := own_shape h3.is.marks
      obtain ⟨p2, e2, hgv, -⟩ := own_shape h3.is.globals
      obtain ⟨p4, e4, hfv, -⟩ := own_shape h3.is.faults
      have a0 : ∀ w1 : World, HdR m X3 file line name w1 → w1.cell? ⟨m, 0, none⟩ = some (.slice p0 X3.ps.length e0) := fun w1 hw => by rw [← hpv]; exact cell_of_row _ _ 0 _ _ _ hw
      have a1 : ∀ w1 : World, HdR m X3 file line name w1 → w1.cell? ⟨m, 1, none⟩ = some (.slice p1 X3.ms.length e1) := fun w1 hw => by rw [← hmv]; exact cell_of_row _ _ 1 _ _ _ hw
      have a2 : ∀ w1 : World, HdR m X3 file line name w1 → w1.cell? ⟨m, 2, none⟩ = some (.slice p2 X3.gs.length e2) := fun w1 hw => by rw [← hgv]; exact cell_of_row _ _ 2 _ _ _ hw
      have a4 : ∀ w1 : World, HdR m X3 file line name w1 → w1.cell? ⟨m, 3, none⟩ = some (.slice p4 X3.fs.length e4) := fun w1 hw => by rw [← hfv]; exact cell_of_row _ _ 3 _ _ _ hw
      have HSH := hid (And.intro hpv (And.intro hmv (And.intro hgv hfv)))
      have HH0 : Hid (HdR m X3 file line name wr.drew) := h3.head
      have hmu : m ≠ W.heap.size := HMU.out
      have z0 := cell_of_row _ _ 0 _ _ _ hu
      have z1 := cell_of_row _ _ 1 _ _ _ hu
      have z2 := cell_of_row _ _ 2 _ _ _ hu
      have zf0 := frozen_of_row _ _ 0 _ _ hu
      have zf1 := frozen_of_row _ _ 1 _ _ hu
      have zf2 := frozen_of_row _ _ 2 _ _ hu
      have HFS : Hid (∀ (w' : World) (k : Nat) (v : Value), HdR m X3 file line name w' → HdR m X3 file line name (w'.setCell ⟨W.heap.size, k, none⟩ v)) := fun w' k v hw => (heap_setCell_other _ _ _ _ hmu).trans hw
      obtain ⟨W9, hW9⟩ : ∃ W9, W9 = ((wr.setCell ⟨W.heap.size, 0, none⟩ (.slice p0 X3.ps.length e0)).setCell ⟨W.heap.size, 1, none⟩ (.slice p1 X3.ms.length e1)).setCell ⟨W.heap.size, 2, none⟩ (.slice p2 X3.gs.length e2) := ⟨_, rfl⟩
      have h9 : W9.heap[W.heap.size]? = some (.cells #[.slice p0 X3.ps.length e0, .slice p1 X3.ms.length e1, .slice p2 X3.gs.length e2] 32 (0, 0)) := by
        rw [hW9]
        exact heap_setCell_same _ _ 2 _ _ _ (heap_setCell_same _ _ 1 _ _ _ (heap_setCell_same _ _ 0 _ _ _ hu))
      have r0 := cell_of_row _ _ 0 _ _ _ h9
      have r1 := cell_of_row _ _ 1 _ _ _ h9
      have r2 := cell_of_row _ _ 2 _ _ _ h9
      simp only [List.getElem?_toArray, List.getElem?_cons_zero, List.getElem?_cons_succ] at r0 r1 r2
      have hg9 : wr.grownBy W9 (some W.heap.size) := by
        rw [hW9]; exact ⟨rfl, rfl, rfl, by simp, fun k _ hk => (heap_setCell_other _ _ _ _ (fun e => hk (by rw [e]))).trans ((heap_setCell_other _ _ _ _ (fun e => hk (by rw [e]))).trans (heap_setCell_other _ _ _ _ (fun e => hk (by rw [e]))))⟩
      have HF9 : Hid (FIs W9 W.heap.size X3) := h3.is.but (fun q hq => by
        obtain ⟨x, hx, htq⟩ := h3.is.fp_tag hq
        refine hg9.block q (tag_lt htq) (fun e => ?_)
        injection e with e
        exact tag_ne htq (tag_row hu) (by rcases hx with rfl | rfl | rfl | rfl | rfl <;> decide) e)
        (Lies.grown hg9 (fun g e => by cases e; exact ⟨tag_row hu, Nat.le_refl _⟩) (by unfold isOB; decide) h3.hz)
      have hsb : ∀ (w1 : World) (k : Nat) (v : Value), Below W.heap.size wr w1 → Below W.heap.size wr (w1.setCell ⟨W.heap.size, k, none⟩ v) := fun w1 k v h => h.setCell (Nat.le_refl _) v
      have HB9 : Hid (Below W.heap.size W W9) := (HB3.out.trans ht3.1).trans (by rw [hW9]; exact hsb _ _ _ (hsb _ _ _ (hsb _ _ _ (Below.refl _ _))))
      clear hsb
      have HW9 := hid hW9
      clear h3 hp3 hs3 ht3 hu hpv hmv hgv hfv hW9 h9 hg9 hk
      go_upto_region 12 with (fail)
      refine wp_region_held_drew (S := HdR m X3 file line name) (by kernel_rfl) HH0.out (fun hHeld => ?_)
      refine wpAnyH_take (i := 0) (oi := { dst := some 50, op := Op.move (Operand.tmp 6), type := 83, pos := "ref.go:142", after := #[], guard := none }) (v := ?pzv0) rfl (by kernel_rfl) (by kernel_rfl) (by kernel_rfl) (fun _ _ _ h => h) (Or.inl ⟨by rfl, ?pzh0⟩) (by assumption) ?pzr0
      case pzh0 => ((intro w hSw; (try dsimp only at hSw); go_simp); try with_reducible rfl)
      try simp only [Act.put, List.setIfInBounds_toArray, List.set_cons_zero, List.set_cons_succ]
      refine wpAnyH_take (i := 1) (oi := { dst := some 51, op := Op.nilCheck (Operand.tmp 50), type := 0, pos := "ref.go:142", after := #[{ on := 0, ground := Ground.data }], guard := none }) (v := ?pzv1) rfl (by kernel_rfl) (by kernel_rfl) (by kernel_rfl) (fun _ _ _ h => h) (Or.inl ⟨by rfl, ?pzh1⟩) (by assumption) ?pzr1
      case pzh1 => ((intro w hSw; (try dsimp only at hSw); go_simp); try with_reducible rfl)
      try simp only [Act.put, List.setIfInBounds_toArray, List.set_cons_zero, List.set_cons_succ]
      refine wpAnyH_take (i := 2) (oi := { dst := some 52, op := Op.fieldAddr 85 (Operand.tmp 51) 0, type := 0, pos := "ref.go:142", after := #[{ on := 1, ground := Ground.data }], guard := none }) (v := ?pzv2) rfl (by kernel_rfl) (by kernel_rfl) (by kernel_rfl) (fun _ _ _ h => h) (Or.inl ⟨by rfl, ?pzh2⟩) (by assumption) ?pzr2
      case pzh2 => ((intro w hSw; (try dsimp only at hSw); go_simp); try with_reducible rfl)
      try simp only [Act.put, List.setIfInBounds_toArray, List.set_cons_zero, List.set_cons_succ]
      refine wpAnyH_take (i := 3) (oi := { dst := some 53, op := Op.load 32 (Operand.tmp 52), type := 32, pos := "ref.go:142", after := #[{ on := 2, ground := Ground.data }], guard := none }) (v := ?pzv3) rfl (by kernel_rfl) (by kernel_rfl) (by kernel_rfl) (fun _ _ _ h => h) (Or.inl ⟨by rfl, ?pzh3⟩) (by assumption) ?pzr3
      case pzh3 => ((intro w hSw; (try dsimp only at hSw); go_simp); try with_reducible rfl)
      try simp only [Act.put, List.setIfInBounds_toArray, List.set_cons_zero, List.set_cons_succ]
      refine wpAnyH_take (i := 4) (oi := { dst := some 54, op := Op.move (Operand.tmp 6), type := 83, pos := "ref.go:142", after := #[{ on := 8, ground := Ground.gcOnly Departure.lateStores }], guard := none }) (v := ?pzv4) rfl (by kernel_rfl) (by kernel_rfl) (by kernel_rfl) (fun _ _ _ h => h) (Or.inl ⟨by rfl, ?pzh4⟩) (by assumption) ?pzr4
      case pzh4 => ((intro w hSw; (try dsimp only at hSw); go_simp); try with_reducible rfl)
      try simp only [Act.put, List.setIfInBounds_toArray, List.set_cons_zero, List.set_cons_succ]
      refine wpAnyH_take (i := 5) (oi := { dst := some 55, op := Op.nilCheck (Operand.tmp 54), type := 0, pos := "ref.go:142", after := #[{ on := 4, ground := Ground.data }, { on := 8, ground := Ground.gcOnly Departure.lateStores }], guard := none }) (v := ?pzv5) rfl (by kernel_rfl) (by kernel_rfl) (by kernel_rfl) (fun _ _ _ h => h) (Or.inl ⟨by rfl, ?pzh5⟩) (by assumption) ?pzr5
      case pzh5 => ((intro w hSw; (try dsimp only at hSw); go_simp); try with_reducible rfl)
      try simp only [Act.put, List.setIfInBounds_toArray, List.set_cons_zero, List.set_cons_succ]
      refine wpAnyH_take (i := 6) (oi := { dst := some 56, op := Op.fieldAddr 85 (Operand.tmp 55) 1, type := 0, pos := "ref.go:142", after := #[{ on := 5, ground := Ground.data }, { on := 8, ground := Ground.gcOnly Departure.lateStores }], guard := none }) (v := ?pzv6) rfl (by kernel_rfl) (by kernel_rfl) (by kernel_rfl) (fun _ _ _ h => h) (Or.inl ⟨by rfl, ?pzh6⟩) (by assumption) ?pzr6
      case pzh6 => ((intro w hSw; (try dsimp only at hSw); go_simp); try with_reducible rfl)
      try simp only [Act.put, List.setIfInBounds_toArray, List.set_cons_zero, List.set_cons_succ]
      refine wpAnyH_take (i := 7) (oi := { dst := some 57, op := Op.load 33 (Operand.tmp 56), type := 33, pos := "ref.go:142", after := #[{ on := 6, ground := Ground.data }, { on := 8, ground := Ground.gcOnly Departure.lateStores }], guard := none }) (v := ?pzv7) rfl (by kernel_rfl) (by kernel_rfl) (by kernel_rfl) (fun _ _ _ h => h) (Or.inl ⟨by rfl, ?pzh7⟩) (by assumption) ?pzr7
      case pzh7 => ((intro w hSw; (try dsimp only at hSw); go_simp); try with_reducible rfl)
      try simp only [Act.put, List.setIfInBounds_toArray, List.set_cons_zero, List.set_cons_succ]
      refine wpAnyH_ready (rs := [8]) (by kernel_rfl) (by simp) ?_
      refine AllReadyH.cons (o := { dst := none, op := Op.store 32 (Operand.tmp 4) (Operand.tmp 53), type := 0, pos := "ref.go:142", after := #[{ on := 3, ground := Ground.data }, { on := 0, ground := Ground.phase }, { on := 1, ground := Ground.phase }, { on := 2, ground := Ground.phase }, { on := 3, ground := Ground.phase }, { on := 4, ground := Ground.textOnly Departure.lateStores }, { on := 5, ground := Ground.textOnly Departure.lateStores }, { on := 6, ground := Ground.textOnly Departure.lateStores }, { on := 7, ground := Ground.textOnly Departure.lateStores }], guard := none }) rfl (fun K hK => ?_) AllReadyH.nil
      go_simp; refine hK.out _ _ (HFS.out _ _ _ (HFS.out _ _ _ (HFS.out _ _ _ HH0.out))) (fun hHeld => ?_)
      clear hK K
      try simp only [Act.put, List.setIfInBounds_toArray, List.set_cons_zero, List.set_cons_succ]
      refine wpAnyH_take (i := 9) (oi := { dst := some 5, op := Op.assign (Operand.tmp 57), type := 33, pos := "ref.go:142", after := #[{ on := 7, ground := Ground.data }, { on := 8, ground := Ground.chain }, { on := 0, ground := Ground.phase }, { on := 1, ground := Ground.phase }, { on := 2, ground := Ground.phase }, { on := 3, ground := Ground.phase }, { on := 4, ground := Ground.phase }, { on := 5, ground := Ground.phase }, { on := 6, ground := Ground.phase }, { on := 7, ground := Ground.phase }, { on := 8, ground := Ground.phase }], guard := none }) (v := ?pzv9) rfl (by kernel_rfl) (by kernel_rfl) (by kernel_rfl) (fun _ _ _ h => h) (Or.inl ⟨by rfl, ?pzh9⟩) (by assumption) ?pzr9
      case pzh9 => ((intro w hSw; (try dsimp only at hSw); go_simp); try with_reducible rfl)
      try simp only [Act.put, List.setIfInBounds_toArray, List.set_cons_zero, List.set_cons_succ]
      refine wpAnyH_done (by kernel_rfl) ?_ _
      go_wp2_with fail
      rw [← HW9.out]
      have q0 : W9.drew.cell? ⟨W.heap.size, 0, none⟩ = some (.slice p0 X3.ps.length e0) := r0
      have q1 : W9.drew.cell? ⟨W.heap.size, 1, none⟩ = some (.slice p1 X3.ms.length e1) := r1
      have q2 : W9.drew.cell? ⟨W.heap.size, 2, none⟩ = some (.slice p2 X3.gs.length e2) := r2
      refine bodyPost_ret (v := .tuple #[.agg #[.slice p0 X3.ps.length e0, .slice p1 X3.ms.length e1, .slice p2 X3.gs.length e2], .slice p4 X3.fs.length e4]) (by simp [results, Try.results10, go_sem, q0, q1, q2, r0, r1, r2]) rfl ?_
      refine ⟨⟨X3, by rw [HSH.out.1, HSH.out.2.1, HSH.out.2.2.1, HSH.out.2.2.2], HF9.out.lies (Lies.below _ (Below.refl _ _).drew (HB9.out.size)), ?_, ?_⟩, HB9.out.drew⟩
      (have := HP3.out; rw [HLEN.out, List.take_length] at this; rw [← this])
      (have := HS3.out; rw [HLEN.out, List.take_length] at this; exact this)
end Go.Proofs.Ythlingholhjcnaa
namespace Go.Proofs.Ythlingholhjcnaa
open Go.RowKit
variable {W W' w w' : World}

set_option maxRecDepth 20000 in
theorem run_neq_oc (a : Oc) (w : World) : (binOp .neq 72 (.agg #[.int .i64 a.kind, .int .i64 a.r.n, .bool a.r.x, .bool a.r.sp, .int .i64 a.m.n, .bool a.m.x, .bool a.m.sp, .int .i64 a.mod, .int .i64 a.amt, .int .i64 a.n, .int .i64 a.v.add, .string a.v.plus, .string a.v.minus, .bool a.lo, .int .i64 a.mode]) (.agg #[.int .i64 a.kind, .int .i64 a.r.n, .bool a.r.x, .bool a.r.sp, .int .i64 a.m.n, .bool a.m.x, .bool a.m.sp, .int .i64 a.mod, .int .i64 a.amt, .int .i64 a.n, .int .i64 a.v.add, .string a.v.plus, .string a.v.minus, .bool a.lo, .int .i64 a.mode])).run Try.prog w = .ok (.bool false) w := by
  go_simp
set_option maxRecDepth 20000 in
set_option maxHeartbeats 4000000 in
theorem sameo_any (a b : Sl Oc) (ha : SlOk W Oc.cells 120 a) (hb : SlOk W Oc.cells 120 b) (he : a.l = b.l) :
    Calls Try.prog 58 #[a.val, b.val] W fun e w' => e = .returned (.bool true) ∧ Below W.heap.size W w' := by
  obtain ⟨pa, ca, l⟩ := a
  obtain ⟨pb, cb, l2⟩ := b
  have he : l = l2 := he
  subst he
  unfold Sl.val
  have HA := hid ha.row
  have HB := hid hb.row
  have hcap : l.length * 120 ≤ 140737488351232 := ha.cap
  clear ha hb
  obtain ⟨n, hnn⟩ : ∃ n, n = l.length := ⟨_, rfl⟩
  have HNN := hid hnn
  show Calls Try.prog 58 #[.slice pa l.length ca, .slice pb l.length cb] W _
  rw [← hnn] at hcap ⊢
  clear hnn
  have HI0 : Hid (SameH W W ∧ Below W.heap.size W W) := ⟨rfl, Below.refl _ _⟩
  go_enter Try.func58, Try.ntmps58
  go_wp2_with (fail)
  go_loopw [5] (fun i wr => ∃ (k : Nat), k ≤ n ∧ i = .int .i64 k ∧ (SameH W wr ∧ Below W.heap.size W wr)) (fun i _ => n - (intOf i).toNat)
  case atStart => exact ⟨0, by omega, rfl, HI0.out⟩
  case round =>
    rename World => wr
    obtain ⟨k, hk, rfl, hsw, hbw⟩ := hrel
    have HSW := hid hsw
    have HBW := hid hbw
    clear HI0
    have hHeld0 : SameH wr wr.drew := rfl
    by_cases hlt : k < n
    · have hkI : (k : Int) < n := by omega
      have hkl : k < l.length := by rw [← HNN.out]; exact hlt
      have hlen : 0 < (l.flatMap Oc.cells).length := by rw [flat_len Oc.cells 15 (fun _ => rfl)]; omega
      obtain ⟨b1, o1, rfl, hbl1, -⟩ := HA.out.at hlen
      obtain ⟨b2, o2, rfl, hbl2, -⟩ := HB.out.at hlen
      have A := oc_cells HA.out k hkl
      have B := oc_cells HB.out k hkl
      generalize l[k] = x at A B
      obtain ⟨c0, c1, c2, c3, c4, c5, c6, c7, c8, c9, c10, c11, c12, c13, c14⟩ := A
      obtain ⟨d0, d1, d2, d3, d4, d5, d6, d7, d8, d9, d10, d11, d12, d13, d14⟩ := B
      have up : ∀ {ad : Addr} {v : Value}, W.cell? ad = some v → ∀ w1 : World, SameH wr w1 → w1.cell? ad = some v := fun hc w1 hw => hw.cell (hsw.cell hc)
      replace c0 := up c0; replace c1 := up c1; replace c2 := up c2; replace c3 := up c3; replace c4 := up c4; replace c5 := up c5; replace c6 := up c6; replace c7 := up c7; replace c8 := up c8; replace c9 := up c9; replace c10 := up c10; replace c11 := up c11; replace c12 := up c12; replace c13 := up c13; replace c14 := up c14
      replace d0 := up d0; replace d1 := up d1; replace d2 := up d2; replace d3 := up d3; replace d4 := up d4; replace d5 := up d5; replace d6 := up d6; replace d7 := up d7; replace d8 := up d8; replace d9 := up d9; replace d10 := up d10; replace d11 := up d11; replace d12 := up d12; replace d13 := up d13; replace d14 := up d14
      have heq := run_neq_oc x
      clear hsw hbw hlen up
      go_wp2_with (fail)
      go_upto_region 6 with (fail)
      refine wp_region_held_drew (S := SameH wr) (by kernel_rfl) hHeld0 (fun hHeld => ?_)
      refine wpAnyH_take (i := 0) (oi := { dst := some 17, op := Op.move (Operand.tmp 0), type := 23, pos := "ref.go:291", after := #[], guard := none }) (v := ?pav0) rfl (by kernel_rfl) (by kernel_rfl) (by kernel_rfl) (fun _ _ _ h => h) (Or.inl ⟨by rfl, ?pah0⟩) (by assumption) ?par0
      case pah0 => ((intro w hSw; (try dsimp only at hSw); go_simp); try with_reducible rfl)
      try simp only [Act.put, List.setIfInBounds_toArray, List.set_cons_zero, List.set_cons_succ]
      refine wpAnyH_take (i := 1) (oi := { dst := some 18, op := Op.move (Operand.tmp 5), type := 3, pos := "ref.go:291", after := #[], guard := none }) (v := ?pav1) rfl (by kernel_rfl) (by kernel_rfl) (by kernel_rfl) (fun _ _ _ h => h) (Or.inl ⟨by rfl, ?pah1⟩) (by assumption) ?par1
      case pah1 => ((intro w hSw; (try dsimp only at hSw); go_simp); try with_reducible rfl)
      try simp only [Act.put, List.setIfInBounds_toArray, List.set_cons_zero, List.set_cons_succ]
      refine wpAnyH_take (i := 2) (oi := { dst := some 19, op := Op.indexAddr 23 (Operand.tmp 17) (Operand.tmp 18), type := 0, pos := "ref.go:291", after := #[{ on := 0, ground := Ground.data }, { on := 1, ground := Ground.data }], guard := none }) (v := ?pav2) rfl (by kernel_rfl) (by kernel_rfl) (by kernel_rfl) (fun _ _ _ h => h) (Or.inl ⟨by rfl, ?pah2⟩) (by assumption) ?par2
      case pah2 => ((intro w hSw; (try dsimp only at hSw); go_simp); try with_reducible rfl)
      try simp only [Act.put, List.setIfInBounds_toArray, List.set_cons_zero, List.set_cons_succ]
      refine wpAnyH_take (i := 3) (oi := { dst := some 20, op := Op.load 72 (Operand.tmp 19), type := 72, pos := "ref.go:291", after := #[{ on := 2, ground := Ground.data }], guard := none }) (v := ?pav3) rfl (by kernel_rfl) (by kernel_rfl) (by kernel_rfl) (fun _ _ _ h => h) (Or.inl ⟨by rfl, ?pah3⟩) (by assumption) ?par3
      case pah3 => ((intro w hSw; (try dsimp only at hSw); go_simp); try with_reducible rfl)
      try simp only [Act.put, List.setIfInBounds_toArray, List.set_cons_zero, List.set_cons_succ]
      refine wpAnyH_take (i := 4) (oi := { dst := some 21, op := Op.move (Operand.tmp 1), type := 23, pos := "ref.go:291", after := #[], guard := none }) (v := ?pav4) rfl (by kernel_rfl) (by kernel_rfl) (by kernel_rfl) (fun _ _ _ h => h) (Or.inl ⟨by rfl, ?pah4⟩) (by assumption) ?par4
      case pah4 => ((intro w hSw; (try dsimp only at hSw); go_simp); try with_reducible rfl)
      try simp only [Act.put, List.setIfInBounds_toArray, List.set_cons_zero, List.set_cons_succ]
      refine wpAnyH_take (i := 5) (oi := { dst := some 22, op := Op.move (Operand.tmp 5), type := 3, pos := "ref.go:291", after := #[], guard := none }) (v := ?pav5) rfl (by kernel_rfl) (by kernel_rfl) (by kernel_rfl) (fun _ _ _ h => h) (Or.inl ⟨by rfl, ?pah5⟩) (by assumption) ?par5
      case pah5 => ((intro w hSw; (try dsimp only at hSw); go_simp); try with_reducible rfl)
      try simp only [Act.put, List.setIfInBounds_toArray, List.set_cons_zero, List.set_cons_succ]
      refine wpAnyH_take (i := 6) (oi := { dst := some 23, op := Op.indexAddr 23 (Operand.tmp 21) (Operand.tmp 22), type := 0, pos := "ref.go:291", after := #[{ on := 4, ground := Ground.data }, { on := 5, ground := Ground.data }], guard := none }) (v := ?pav6) rfl (by kernel_rfl) (by kernel_rfl) (by kernel_rfl) (fun _ _ _ h => h) (Or.inl ⟨by rfl, ?pah6⟩) (by assumption) ?par6
      case pah6 => ((intro w hSw; (try dsimp only at hSw); go_simp); try with_reducible rfl)
      try simp only [Act.put, List.setIfInBounds_toArray, List.set_cons_zero, List.set_cons_succ]
      refine wpAnyH_take (i := 7) (oi := { dst := some 24, op := Op.load 72 (Operand.tmp 23), type := 72, pos := "ref.go:291", after := #[{ on := 6, ground := Ground.data }], guard := none }) (v := ?pav7) rfl (by kernel_rfl) (by kernel_rfl) (by kernel_rfl) (fun _ _ _ h => h) (Or.inl ⟨by rfl, ?pah7⟩) (by assumption) ?par7
      case pah7 => ((intro w hSw; (try dsimp only at hSw); go_simp); try with_reducible rfl)
      try simp only [Act.put, List.setIfInBounds_toArray, List.set_cons_zero, List.set_cons_succ]
      refine wpAnyH_take (i := 8) (oi := { dst := some 25, op := Op.binOp BinOp.neq 72 (Operand.tmp 20) (Operand.tmp 24) 72, type := 4, pos := "ref.go:291", after := #[{ on := 3, ground := Ground.data }, { on := 7, ground := Ground.data }], guard := none }) (v := ?pav8) rfl (by kernel_rfl) (by kernel_rfl) (by kernel_rfl) (fun _ _ _ h => h) (Or.inl ⟨by rfl, ?pah8⟩) (by assumption) ?par8
      case pah8 => ((intro w hSw; (try dsimp only at hSw); go_simp); try with_reducible rfl)
      try simp only [Act.put, List.setIfInBounds_toArray, List.set_cons_zero, List.set_cons_succ]
      refine wpAnyH_done (by kernel_rfl) ?_ _
      go_wp2_with fail
      exact ⟨⟨k + 1, by omega, by go_num, HSW.out, HBW.out.drew⟩, by simp [intOf]; omega⟩
    · have hke : k = n := by omega
      subst hke
      go_wp2_with (fail)
      go_ret
      exact ⟨rfl, HBW.out⟩
end Go.Proofs.Ythlingholhjcnaa
namespace Go.Proofs.Ythlingholhjcnaa
open Go.RowKit
variable {W W' w w' : World}

/-- string(b) of bytes that lie so. -/
theorem conv_any (b : Sl Int) (h : SlOk W (fun n : Int => [Value.int .u8 n]) 1 b) : (convert 55 9 (.slice b.p b.l.length b.c)).run Try.prog W = .ok (.string (strOfNums b.l)) W := by
  obtain ⟨p, c, l⟩ := b
  obtain ⟨hrow, -, -, -⟩ := h
  dsimp only at hrow ⊢
  cases l with
  | nil => exact run_convert_bytes_zero W _ _ (show Try.prog.underlying 55 = some (.slice 5) from by kernel_rfl) (by kernel_rfl) p c _ (by kernel_rfl)
  | cons a l =>
    obtain ⟨b, o, rfl, -, hc⟩ := hrow.at (by simp)
    rw [← map_flat1] at hc
    refine run_convert_bytes_arg W _ _ (show Try.prog.underlying 55 = some (.slice 5) from by kernel_rfl) (by kernel_rfl) b o _ c _ rfl (fun i hi => ?_) _ (by kernel_rfl)
    rw [hc i (by simpa using hi)]
    have hi2 : i < (a :: l).length := hi
    rw [List.getElem_map]
    simp only [List.getD_eq_getElem?_getD, List.getElem?_eq_getElem hi2]
    rfl
structure PcB (W W2 : World) (a b : PcR) : Prop where
  eq : W2 = (W.alloc (.cells a.cells.toArray 64)).alloc (.cells b.cells.toArray 64)
  a : BxP W.heap.size a W2
  b : BxP (W.heap.size + 1) b W2
  w : Below W.heap.size W W2
theorem pcb (W : World) (a b : PcR) : ∃ W2, PcB W W2 a b := ⟨_, rfl, (Below.heap_alloc _ _ _ (by simp)).trans (heap_alloc_new _ _), heap_newAt _ _ _ (by simp), ((Below.refl _ _).alloc (Nat.le_refl _) _).alloc (by simp) _⟩
theorem PcB.lt {W W2 : World} {a b : PcR} (h : PcB W W2 a b) : W.heap.size + 1 < W2.heap.size := (Array.getElem?_eq_some_iff.1 h.b).1
theorem box_up {bx : Nat} {x : PcR} (h : BxP bx x W) (w' : World) (hb : Below W.heap.size W w') : BxP bx x w' := (hb.block bx (Array.getElem?_eq_some_iff.1 h).1).trans h
theorem bx_cells {bx : Nat} {x : PcR} (h : BxP bx x W) : W.cell? ⟨bx, 0, none⟩ = some (.int .i64 x.kind) ∧ W.cell? ⟨bx, 1, none⟩ = some (.int .i64 x.file) ∧ W.cell? ⟨bx, 2, none⟩ = some (.int .i64 x.line) ∧ W.cell? ⟨bx, 3, none⟩ = some (.string x.l.name) ∧ W.cell? ⟨bx, 4, none⟩ = some (.slice x.l.opers.p x.l.opers.l.length x.l.opers.c) ∧ W.cell? ⟨bx, 5, none⟩ = some (.int .i64 x.v.add) ∧ W.cell? ⟨bx, 6, none⟩ = some (.string x.v.plus) ∧ W.cell? ⟨bx, 7, none⟩ = some (.string x.v.minus) ∧ W.cell? ⟨bx, 8, none⟩ = some (.int .i64 x.size) ∧ W.cell? ⟨bx, 9, none⟩ = some (.slice x.b.p x.b.l.length x.b.c) ∧ W.cell? ⟨bx, 10, none⟩ = some (.int .i64 x.align) := box_cells h
set_option maxRecDepth 40000 in
set_option maxHeartbeats 4000000 in
theorem samep_any (a b : PcR) (hao : SlOk W Oc.cells 120 a.l.opers) (hbo : SlOk W Oc.cells 120 b.l.opers) (hab : SlOk W (fun n : Int => [Value.int .u8 n]) 1 a.b) (hbb : SlOk W (fun n : Int => [Value.int .u8 n]) 1 b.b) (he : a.pl = b.pl) :
    Calls Try.prog 47 #[.agg a.cells.toArray, .agg b.cells.toArray] W fun e w' => e = .returned (.bool true) ∧ Below W.heap.size W w' := by
  obtain ⟨W2, hW2⟩ := pcb W a b
  have HW := hid hW2
  have hlt := hW2.lt
  have HSO : Hid (∀ w' : World, Below W2.heap.size W2 w' → Calls Try.prog 58 #[.slice a.l.opers.p a.l.opers.l.length a.l.opers.c, .slice b.l.opers.p b.l.opers.l.length b.l.opers.c] w' fun e w2 => e = .returned (.bool true) ∧ Below w'.heap.size w' w2) := fun w' hw =>
    sameo_any _ _ ((hao.below hW2.w).below hw) ((hbo.below hW2.w).below hw) (congrArg Pc.opers he)
  have hel : b.b.l = a.b.l := (congrArg Pc.b he).symm
  have hca : ∀ w' : World, Below W2.heap.size W2 w' → (convert 55 9 (.slice a.b.p a.b.l.length a.b.c)).run Try.prog w' = .ok (.string (strOfNums b.b.l)) w' := fun w' hw => by rw [hel]; exact conv_any a.b ((hab.below hW2.w).below hw)
  have hcb : ∀ w' : World, Below W2.heap.size W2 w' → (convert 55 9 (.slice b.b.p b.b.l.length b.b.c)).run Try.prog w' = .ok (.string (strOfNums b.b.l)) w' := fun w' hw => conv_any b.b ((hbb.below hW2.w).below hw)
  generalize strOfNums b.b.l = sb at hca hcb
  have A := fun (w' : World) (hw : Below W2.heap.size W2 w') => bx_cells (box_up hW2.a w' hw)
  have B := fun (w' : World) (hw : Below W2.heap.size W2 w') => bx_cells (box_up hW2.b w' hw)
  have hev := run_eql_vv a.v a.v
  have hvv : b.v = a.v := (congrArg Pc.v he).symm
  rw [hvv, show b.kind = a.kind from (congrArg Pc.kind he).symm, show b.file = a.file from (congrArg Pc.file he).symm, show b.line = a.line from (congrArg Pc.line he).symm, show b.l.name = a.l.name from (congrArg Pc.name he).symm, show b.size = a.size from (congrArg Pc.size he).symm, show b.align = a.align from (congrArg Pc.align he).symm] at B
  have HE : Hid (W2 = (W.alloc (.cells a.cells.toArray 64)).alloc (.cells b.cells.toArray 64)) := hW2.eq
  clear hao hbo hab hbb he hW2 hvv hel
  have c0 := fun w' hw => (A w' hw).1
  have c1 := fun w' hw => (A w' hw).2.1
  have c2 := fun w' hw => (A w' hw).2.2.1
  have c3 := fun w' hw => (A w' hw).2.2.2.1
  have c4 := fun w' hw => (A w' hw).2.2.2.2.1
  have c5 := fun w' hw => (A w' hw).2.2.2.2.2.1
  have c6 := fun w' hw => (A w' hw).2.2.2.2.2.2.1
  have c7 := fun w' hw => (A w' hw).2.2.2.2.2.2.2.1
  have c8 := fun w' hw => (A w' hw).2.2.2.2.2.2.2.2.1
  have c9 := fun w' hw => (A w' hw).2.2.2.2.2.2.2.2.2.1
  have c10 := fun w' hw => (A w' hw).2.2.2.2.2.2.2.2.2.2
  have d0 := fun w' hw => (B w' hw).1
  have d1 := fun w' hw => (B w' hw).2.1
  have d2 := fun w' hw => (B w' hw).2.2.1
  have d3 := fun w' hw => (B w' hw).2.2.2.1
  have d4 := fun w' hw => (B w' hw).2.2.2.2.1
  have d5 := fun w' hw => (B w' hw).2.2.2.2.2.1
  have d6 := fun w' hw => (B w' hw).2.2.2.2.2.2.1
  have d7 := fun w' hw => (B w' hw).2.2.2.2.2.2.2.1
  have d8 := fun w' hw => (B w' hw).2.2.2.2.2.2.2.2.1
  have d9 := fun w' hw => (B w' hw).2.2.2.2.2.2.2.2.2.1
  have d10 := fun w' hw => (B w' hw).2.2.2.2.2.2.2.2.2.2
  clear A B
  unfold PcR.cells at HE ⊢
  go_enter Try.func47, Try.ntmps47
  go_upto_region 1 with (fail)
  rw [← HE.out]
  have hq0 : Below W2.heap.size W2 W2 := Below.refl _ _
  go_wp2_with (go_at_call 58; (with_reducible refine (HSO.out _ (by assumption)).mono ?_); rintro e w7 ⟨rfl, hb7⟩; have hq7 : Below W2.heap.size W2 w7 := hb7)
  go_ret
  exact ⟨rfl, HW.out.w.trans (hq7.mono HW.out.w.size)⟩
end Go.Proofs.Ythlingholhjcnaa
namespace Go.Proofs.Ythlingholhjcnaa
open Go.RowKit
variable {W W' w w' : World}

structure PcRd (W : World) (x : PcR) : Prop where
  op : SlOk W Oc.cells 120 x.l.opers
  b : SlOk W (fun n : Int => [Value.int .u8 n]) 1 x.b
structure PtRd (W : World) (y : PtR) : Prop where
  row : Row W y.pieces.p (y.pieces.l.flatMap PcR.cells)
  len : y.pieces.l.length ≤ 1000000000000
  pcs : ∀ x ∈ y.pieces.l, PcRd W x
theorem PcRd.below {x : PcR} (h : PcRd W x) (hb : Below W.heap.size W w) : PcRd w x := ⟨h.op.below hb, h.b.below hb⟩
theorem PtRd.below {y : PtR} (h : PtRd W y) (hb : Below W.heap.size W w) : PtRd w y := ⟨h.row.below hb, h.len, fun x hx => (h.pcs x hx).below hb⟩
theorem samep_ex (a b : PcR) (ha : PcRd W a) (hb : PcRd W b) (he : a.pl = b.pl) :
    Calls Try.prog 47 #[.agg #[.int .i64 a.kind, .int .i64 a.file, .int .i64 a.line, .string a.l.name, .slice a.l.opers.p a.l.opers.l.length a.l.opers.c, .int .i64 a.v.add, .string a.v.plus, .string a.v.minus, .int .i64 a.size, .slice a.b.p a.b.l.length a.b.c, .int .i64 a.align], .agg #[.int .i64 b.kind, .int .i64 b.file, .int .i64 b.line, .string b.l.name, .slice b.l.opers.p b.l.opers.l.length b.l.opers.c, .int .i64 b.v.add, .string b.v.plus, .string b.v.minus, .int .i64 b.size, .slice b.b.p b.b.l.length b.b.c, .int .i64 b.align]] W fun e w' => e = .returned (.bool true) ∧ Below W.heap.size W w' :=
  samep_any a b ha.op hb.op ha.b hb.b he
theorem pt_ex {b o : Nat} {ys : List PtR} (h : Row w (some ⟨b, o, none⟩) (ys.flatMap PtR.cells)) (k : Nat) (hk : k < ys.length) : w.cell? ⟨b, o + k * 4, none⟩ = some (.string ys[k].name) ∧ w.cell? ⟨b, o + k * 4 + 1, none⟩ = some (.int .i64 ys[k].file) ∧ w.cell? ⟨b, o + k * 4 + 2, none⟩ = some (.int .i64 ys[k].line) ∧ w.cell? ⟨b, o + k * 4 + 3, none⟩ = some (.slice ys[k].pieces.p ys[k].pieces.l.length ys[k].pieces.c) := ptr_cells h k hk
theorem pc_ex {b o : Nat} {ys : List PcR} (h : Row w (some ⟨b, o, none⟩) (ys.flatMap PcR.cells)) (k : Nat) (hk : k < ys.length) :
    w.cell? ⟨b, o + k * 11, none⟩ = some (.int .i64 ys[k].kind) ∧ w.cell? ⟨b, o + k * 11 + 1, none⟩ = some (.int .i64 ys[k].file) ∧ w.cell? ⟨b, o + k * 11 + 2, none⟩ = some (.int .i64 ys[k].line) ∧ w.cell? ⟨b, o + k * 11 + 3, none⟩ = some (.string ys[k].l.name) ∧ w.cell? ⟨b, o + k * 11 + 4, none⟩ = some (.slice ys[k].l.opers.p ys[k].l.opers.l.length ys[k].l.opers.c) ∧ w.cell? ⟨b, o + k * 11 + 5, none⟩ = some (.int .i64 ys[k].v.add) ∧ w.cell? ⟨b, o + k * 11 + 6, none⟩ = some (.string ys[k].v.plus) ∧ w.cell? ⟨b, o + k * 11 + 7, none⟩ = some (.string ys[k].v.minus) ∧ w.cell? ⟨b, o + k * 11 + 8, none⟩ = some (.int .i64 ys[k].size) ∧ w.cell? ⟨b, o + k * 11 + 9, none⟩ = some (.slice ys[k].b.p ys[k].b.l.length ys[k].b.c) ∧ w.cell? ⟨b, o + k * 11 + 10, none⟩ = some (.int .i64 ys[k].align) := pcr_cells h k hk
theorem below_on (h : Below w.heap.size w w') (h0 : Below W.heap.size W w) : Below W.heap.size W w' := h0.trans (h.mono h0.size)
set_option maxRecDepth 40000 in
set_option maxHeartbeats 4000000 in
theorem samepts_any (pa pb : Option Addr) (ca cb : Nat) (l1 l2 : List PtR) (h1 : Row W pa (l1.flatMap PtR.cells)) (h2 : Row W pb (l2.flatMap PtR.cells)) (r1 : ∀ y ∈ l1, PtRd W y) (r2 : ∀ y ∈ l2, PtRd W y) (hlen : l1.length ≤ 1000000000000) (he : l1.map PtR.pl = l2.map PtR.pl) :
    Calls Try.prog 27 #[.slice pa l1.length ca, .slice pb l2.length cb] W fun e w' => e = .returned (.bool true) ∧ Below W.heap.size W w' := by
  have hll : l2.length = l1.length := by have := congrArg List.length he; simpa using this.symm
  have HE : Hid (∀ (k : Nat) (k1 : k < l1.length) (k2 : k < l2.length), l1[k].pl = l2[k].pl) := fun k k1 k2 => by
    have : (l1.map PtR.pl)[k]'(by simpa using k1) = (l2.map PtR.pl)[k]'(by simpa using k2) := List.getElem_of_eq he _
    simpa using this
  have HH := hid (And.intro h1 h2)
  have HR := hid (And.intro r1 r2)
  obtain ⟨n, hnn⟩ : ∃ n, n = l1.length := ⟨_, rfl⟩
  rw [hll, ← hnn]
  have HN1 : Hid (l1.length = n) := hnn.symm
  have HN2 : Hid (l2.length = n) := by rw [hnn]; exact hll
  have hn : n ≤ 1000000000000 := by omega
  clear h1 h2 r1 r2 hlen he hll hnn
  have hb0 : Below W.heap.size W W := Below.refl _ _
  go_enter Try.func27, Try.ntmps27
  go_wp2_with (fail)
  go_loopw [5] (fun i wr => ∃ (k : Nat), k ≤ n ∧ i = .int .i64 k ∧ Below W.heap.size W wr) (fun i _ => n - (intOf i).toNat)
  case atStart => exact ⟨0, by omega, rfl, hb0⟩
  case round =>
    rename World => wr
    obtain ⟨k, hk, rfl, hbw⟩ := hrel
    clear hb0
    have HBW := hid hbw
    by_cases hlt : k < n
    · have hkI : (k : Int) < n := by omega
      have k1 : k < l1.length := by rw [HN1.out]; exact hlt
      have k2 : k < l2.length := by rw [HN2.out]; exact hlt
      obtain ⟨b1, o1, rfl, hbl1, -⟩ := HH.out.1.at (by rw [flat_len PtR.cells 4 (fun _ => rfl)]; omega)
      obtain ⟨b2, o2, rfl, hbl2, -⟩ := HH.out.2.at (by rw [flat_len PtR.cells 4 (fun _ => rfl)]; omega)
      have A := fun (w' : World) (hw : Below W.heap.size W w') => pt_ex (HH.out.1.below hw) k k1
      have B := fun (w' : World) (hw : Below W.heap.size W w') => pt_ex (HH.out.2.below hw) k k2
      have he := HE.out k k1 k2
      have R1 := HR.out.1 _ (List.getElem_mem k1)
      have R2 := HR.out.2 _ (List.getElem_mem k2)
      generalize l1[k] = y1 at A he R1
      generalize l2[k] = y2 at B he R2
      have hpl : y2.pieces.l.length = y1.pieces.l.length := by have := congrArg (fun p => p.pieces.length) he; simpa [PtR.pl] using this.symm
      have HEP : Hid (∀ (j : Nat) (j1 : j < y1.pieces.l.length) (j2 : j < y2.pieces.l.length), y1.pieces.l[j].pl = y2.pieces.l[j].pl) := fun j j1 j2 => by
        have e0 : y1.pieces.l.map PcR.pl = y2.pieces.l.map PcR.pl := congrArg Pt.pieces he
        have : (y1.pieces.l.map PcR.pl)[j]'(by simpa using j1) = (y2.pieces.l.map PcR.pl)[j]'(by simpa using j2) := List.getElem_of_eq e0 _
        simpa using this
      rw [show y2.name = y1.name from (congrArg Pt.name he).symm, show y2.file = y1.file from (congrArg Pt.file he).symm, show y2.line = y1.line from (congrArg Pt.line he).symm, hpl] at B
      have hm := R1.len
      obtain ⟨m, hmm⟩ : ∃ m, m = y1.pieces.l.length := ⟨_, rfl⟩
      rw [← hmm] at A B hm hpl
      have HM1 : Hid (y1.pieces.l.length = m) := hmm.symm
      have HM2 := hid hpl
      have HRR := hid (And.intro R1 R2)
      clear hmm hpl R1 R2 he
      have c0 := fun w' hw => (A w' hw).1
      have c1 := fun w' hw => (A w' hw).2.1
      have c2 := fun w' hw => (A w' hw).2.2.1
      have c3 := fun w' hw => (A w' hw).2.2.2
      have d0 := fun w' hw => (B w' hw).1
      have d1 := fun w' hw => (B w' hw).2.1
      have d2 := fun w' hw => (B w' hw).2.2.1
      have d3 := fun w' hw => (B w' hw).2.2.2
      clear A B
      go_wp2_with (fail)
      go_upto_region 6 with (fail)
      go_region_held3 (fun w' => Below W.heap.size W w') (first | (with_reducible assumption) | exact hbw.drew) (first | fail)
      go_wp2_with (fail)
      have hbd : Below W.heap.size W wr.drew := hbw.drew
      go_loopw [6] (fun i wx => ∃ (j : Nat), j ≤ m ∧ i = .int .i64 j ∧ Below W.heap.size W wx) (fun i _ => m - (intOf i).toNat)
      case atStart => exact ⟨0, by omega, rfl, by assumption⟩
      case round =>
        rename World => wx
        obtain ⟨j, hj, rfl, hbx⟩ := hrel
        clear hbd hbw
        have HBX := hid hbx
        by_cases hjl : j < m
        · have hjI : (j : Int) < m := by omega
          have j1 : j < y1.pieces.l.length := by rw [HM1.out]; exact hjl
          have j2 : j < y2.pieces.l.length := by rw [HM2.out]; exact hjl
          have rA := HRR.out.1.row
          have rB := HRR.out.2.row
          obtain ⟨b3, o3, hp1, hbl3, -⟩ := rA.at (by rw [flat_len PcR.cells 11 (fun _ => rfl)]; omega)
          obtain ⟨b4, o4, hp2, hbl4, -⟩ := rB.at (by rw [flat_len PcR.cells 11 (fun _ => rfl)]; omega)
          rw [hp1] at rA c3
          rw [hp2] at rB d3
          clear hp1 hp2
          have A2 := fun (w' : World) (hw : Below W.heap.size W w') => pc_ex (rA.below hw) j j1
          have B2 := fun (w' : World) (hw : Below W.heap.size W w') => pc_ex (rB.below hw) j j2
          have hsp := fun (w' : World) (hw : Below W.heap.size W w') => samep_ex _ _ ((HRR.out.1.pcs _ (List.getElem_mem j1)).below hw) ((HRR.out.2.pcs _ (List.getElem_mem j2)).below hw) (HEP.out j j1 j2)
          clear rA rB
          generalize y1.pieces.l[j] = x1 at A2 hsp
          generalize y2.pieces.l[j] = x2 at B2 hsp
          have HSP := hid hsp
          clear hsp
          have e0 := fun w' hw => (A2 w' hw).1
          have e1 := fun w' hw => (A2 w' hw).2.1
          have e2 := fun w' hw => (A2 w' hw).2.2.1
          have e3 := fun w' hw => (A2 w' hw).2.2.2.1
          have e4 := fun w' hw => (A2 w' hw).2.2.2.2.1
          have e5 := fun w' hw => (A2 w' hw).2.2.2.2.2.1
          have e6 := fun w' hw => (A2 w' hw).2.2.2.2.2.2.1
          have e7 := fun w' hw => (A2 w' hw).2.2.2.2.2.2.2.1
          have e8 := fun w' hw => (A2 w' hw).2.2.2.2.2.2.2.2.1
          have e9 := fun w' hw => (A2 w' hw).2.2.2.2.2.2.2.2.2.1
          have e10 := fun w' hw => (A2 w' hw).2.2.2.2.2.2.2.2.2.2
          have f0 := fun w' hw => (B2 w' hw).1
          have f1 := fun w' hw => (B2 w' hw).2.1
          have f2 := fun w' hw => (B2 w' hw).2.2.1
          have f3 := fun w' hw => (B2 w' hw).2.2.2.1
          have f4 := fun w' hw => (B2 w' hw).2.2.2.2.1
          have f5 := fun w' hw => (B2 w' hw).2.2.2.2.2.1
          have f6 := fun w' hw => (B2 w' hw).2.2.2.2.2.2.1
          have f7 := fun w' hw => (B2 w' hw).2.2.2.2.2.2.2.1
          have f8 := fun w' hw => (B2 w' hw).2.2.2.2.2.2.2.2.1
          have f9 := fun w' hw => (B2 w' hw).2.2.2.2.2.2.2.2.2.1
          have f10 := fun w' hw => (B2 w' hw).2.2.2.2.2.2.2.2.2.2
          clear A2 B2 c0 c1 c2 d0 d1 d2
          go_wp2_with (fail)
          go_upto_region 11 with (fail)
          go_region_held3 (fun w' => Below W.heap.size W w') (first | (with_reducible assumption) | exact hbx.drew)
            (first | (go_at_call 47; (with_reducible refine (HSP.out _ (by assumption)).mono ?_); rintro e w7 ⟨rfl, hb7⟩; have hq7 : Below W.heap.size W w7 := below_on hb7 (by assumption)))
          go_wp2_with (fail)
          exact ⟨⟨j + 1, by omega, by go_num, by assumption⟩, by simp [intOf]; omega⟩
        · have hje : j = m := by omega
          subst hje
          go_wp2_with (fail)
          exact ⟨⟨k + 1, by omega, by go_num, HBX.out⟩, by simp [intOf]; omega⟩
    · have hke : k = n := by omega
      subst hke
      go_wp2_with (fail)
      go_ret
      exact ⟨rfl, HBW.out⟩
end Go.Proofs.Ythlingholhjcnaa
namespace Go.Proofs.Ythlingholhjcnaa
open Go.RowKit
variable {W W' w w' : World}

set_option maxRecDepth 20000 in
theorem run_neq_mk (a : Mk) (w : World) : (binOp .neq 81 (.agg #[.string a.name, .int .i64 a.file, .int .i64 a.line, .int .i64 a.part, .int .i64 a.piece, .bool a.equ, .int .i64 a.v.add, .string a.v.plus, .string a.v.minus]) (.agg #[.string a.name, .int .i64 a.file, .int .i64 a.line, .int .i64 a.part, .int .i64 a.piece, .bool a.equ, .int .i64 a.v.add, .string a.v.plus, .string a.v.minus])).run Try.prog w = .ok (.bool false) w := by
  go_simp
set_option maxRecDepth 20000 in
theorem run_neq_td (a : Td) (w : World) : (binOp .neq 90 (.agg #[.string a.name, .int .i64 a.file, .int .i64 a.line]) (.agg #[.string a.name, .int .i64 a.file, .int .i64 a.line])).run Try.prog w = .ok (.bool false) w := by
  go_simp
theorem un_boxes (W : World) (v0 v1 v2 u0 u1 u2 : Value) : ∃ W2, W2 = (W.alloc (.cells #[v0, v1, v2] 32)).alloc (.cells #[u0, u1, u2] 32) ∧ W2.heap[W.heap.size]? = some (.cells #[v0, v1, v2] 32 (0, 0)) ∧ W2.heap[W.heap.size + 1]? = some (.cells #[u0, u1, u2] 32 (0, 0)) ∧ Below W.heap.size W W2 :=
  ⟨_, rfl, (Below.heap_alloc _ _ _ (by simp)).trans (heap_alloc_new _ _), heap_newAt _ _ _ (by simp), ((Below.refl _ _).alloc (Nat.le_refl _) _).alloc (by simp) _⟩
theorem blk_up {b : Nat} {o : Obj} (h : W.heap[b]? = some o) (w' : World) (hb : Below W.heap.size W w') : w'.heap[b]? = some o := (hb.block b (Array.getElem?_eq_some_iff.1 h).1).trans h
set_option maxRecDepth 40000 in
set_option maxHeartbeats 4000000 in
theorem same_any (pa pb ma mb ga gb : Option Addr) (ca cb da db ea eb : Nat) (l1 l2 : List PtR) (ms : List Mk) (gs : List Td) (h1 : Row W pa (l1.flatMap PtR.cells)) (h2 : Row W pb (l2.flatMap PtR.cells)) (m1 : Row W ma (ms.flatMap Mk.cells)) (m2 : Row W mb (ms.flatMap Mk.cells)) (g1 : Row W ga (gs.flatMap Td.cells)) (g2 : Row W gb (gs.flatMap Td.cells))
    (r1 : ∀ y ∈ l1, PtRd W y) (r2 : ∀ y ∈ l2, PtRd W y) (hlen : l1.length ≤ 1000000000000) (hml : ms.length ≤ 1000000000000) (hgl : gs.length ≤ 1000000000000) (he : l1.map PtR.pl = l2.map PtR.pl) :
    Calls Try.prog 13 #[.agg #[.slice pa l1.length ca, .slice ma ms.length da, .slice ga gs.length ea], .agg #[.slice pb l2.length cb, .slice mb ms.length db, .slice gb gs.length eb]] W fun e w' => e = .returned (.bool true) ∧ Below W.heap.size W w' := by
  obtain ⟨W2, hW2, hx, hy, hb2⟩ := un_boxes W (.slice pa l1.length ca) (.slice ma ms.length da) (.slice ga gs.length ea) (.slice pb l2.length cb) (.slice mb ms.length db) (.slice gb gs.length eb)
  have HE := hid hW2
  have HSP : Hid (Calls Try.prog 27 #[.slice pa l1.length ca, .slice pb l2.length cb] W2 fun e w' => e = .returned (.bool true) ∧ Below W2.heap.size W2 w') := samepts_any pa pb ca cb l1 l2 (h1.below hb2) (h2.below hb2) (fun y hy => (r1 y hy).below hb2) (fun y hy => (r2 y hy).below hb2) hlen he
  have HB := hid hb2
  have hq0 : Below W2.heap.size W2 W2 := Below.refl _ _
  obtain ⟨n, hn⟩ : ∃ n, n = ms.length := ⟨_, rfl⟩
  obtain ⟨q, hq⟩ : ∃ q, q = gs.length := ⟨_, rfl⟩
  have HM := hid (And.intro (m1.below hb2) (m2.below hb2))
  have HG := hid (And.intro (g1.below hb2) (g2.below hb2))
  rw [← hn] at hml hx hy HE
  rw [← hq] at hgl hx hy HE
  rw [← hn, ← hq]
  have HN := hid hn
  have HQ := hid hq
  generalize l1.length = n1 at *
  generalize l2.length = n2 at *
  have c0 := fun (w' : World) (hw : Below W2.heap.size W2 w') => cell_of_row _ _ 0 _ _ _ (blk_up hx w' hw)
  have c1 := fun (w' : World) (hw : Below W2.heap.size W2 w') => cell_of_row _ _ 1 _ _ _ (blk_up hx w' hw)
  have c2 := fun (w' : World) (hw : Below W2.heap.size W2 w') => cell_of_row _ _ 2 _ _ _ (blk_up hx w' hw)
  have d0 := fun (w' : World) (hw : Below W2.heap.size W2 w') => cell_of_row _ _ 0 _ _ _ (blk_up hy w' hw)
  have d1 := fun (w' : World) (hw : Below W2.heap.size W2 w') => cell_of_row _ _ 1 _ _ _ (blk_up hy w' hw)
  have d2 := fun (w' : World) (hw : Below W2.heap.size W2 w') => cell_of_row _ _ 2 _ _ _ (blk_up hy w' hw)
  clear hW2 hx hy hb2 h1 h2 m1 m2 g1 g2 r1 r2 hlen he hn hq
  go_enter Try.func13, Try.ntmps13
  go_upto_region 1 with (fail)
  rw [← HE.out]
  go_wp2_with (go_at_call 27; (with_reducible refine HSP.out.mono ?_); rintro e w7 ⟨rfl, hb7⟩; have hq7 : Below W2.heap.size W2 w7 := hb7; clear hb7)
  go_loopw [5] (fun i wr => ∃ (k : Nat), k ≤ n ∧ i = .int .i64 k ∧ Below W2.heap.size W2 wr) (fun i _ => n - (intOf i).toNat)
  case atStart => exact ⟨0, by omega, rfl, by assumption⟩
  case round =>
    rename World => wr
    obtain ⟨k, hk, rfl, hbw⟩ := hrel
    clear hq0 hq7
    have HBW := hid hbw
    by_cases hlt : k < n
    · have hkI : (k : Int) < n := by omega
      have k1 : k < ms.length := by rw [← HN.out]; exact hlt
      have rA := HM.out.1
      have rB := HM.out.2
      obtain ⟨b1, o1, rfl, hbl1, -⟩ := rA.at (by rw [flat_len Mk.cells 9 (fun _ => rfl)]; omega)
      obtain ⟨b2, o2, rfl, hbl2, -⟩ := rB.at (by rw [flat_len Mk.cells 9 (fun _ => rfl)]; omega)
      have A := fun (w' : World) (hw : Below W2.heap.size W2 w') => mk_cells (rA.below hw) k k1
      have B := fun (w' : World) (hw : Below W2.heap.size W2 w') => mk_cells (rB.below hw) k k1
      clear rA rB
      generalize ms[k] = x at A B
      have hne := run_neq_mk x
      have e0 := fun w' hw => (A w' hw).1
      have e1 := fun w' hw => (A w' hw).2.1
      have e2 := fun w' hw => (A w' hw).2.2.1
      have e3 := fun w' hw => (A w' hw).2.2.2.1
      have e4 := fun w' hw => (A w' hw).2.2.2.2.1
      have e5 := fun w' hw => (A w' hw).2.2.2.2.2.1
      have e6 := fun w' hw => (A w' hw).2.2.2.2.2.2.1
      have e7 := fun w' hw => (A w' hw).2.2.2.2.2.2.2.1
      have e8 := fun w' hw => (A w' hw).2.2.2.2.2.2.2.2
      have f0 := fun w' hw => (B w' hw).1
      have f1 := fun w' hw => (B w' hw).2.1
      have f2 := fun w' hw => (B w' hw).2.2.1
      have f3 := fun w' hw => (B w' hw).2.2.2.1
      have f4 := fun w' hw => (B w' hw).2.2.2.2.1
      have f5 := fun w' hw => (B w' hw).2.2.2.2.2.1
      have f6 := fun w' hw => (B w' hw).2.2.2.2.2.2.1
      have f7 := fun w' hw => (B w' hw).2.2.2.2.2.2.2.1
      have f8 := fun w' hw => (B w' hw).2.2.2.2.2.2.2.2
      clear A B
      go_wp2_with (fail)
      go_upto_region 6 with (fail)
      go_region_held3 (fun w' => Below W2.heap.size W2 w') (first | (with_reducible assumption) | exact hbw.drew) (first | fail)
      go_wp2_with (fail)
      exact ⟨⟨k + 1, by omega, by go_num, HBW.out.drew⟩, by simp [intOf]; omega⟩
    · have hke : k = n := by omega
      subst hke
      go_wp2_with (fail)
      go_loopw [6] (fun i wr => ∃ (k : Nat), k ≤ q ∧ i = .int .i64 k ∧ Below W2.heap.size W2 wr) (fun i _ => q - (intOf i).toNat)
      case atStart => exact ⟨0, by omega, rfl, by assumption⟩
      case round =>
        rename World => wx
        obtain ⟨j, hj, rfl, hbx⟩ := hrel
        clear hbw
        have HBX := hid hbx
        by_cases hjt : j < q
        · have hjI : (j : Int) < q := by omega
          have j1 : j < gs.length := by rw [← HQ.out]; exact hjt
          have rA := HG.out.1
          have rB := HG.out.2
          obtain ⟨b1, o1, rfl, hbl1, -⟩ := rA.at (by rw [flat_len Td.cells 3 (fun _ => rfl)]; omega)
          obtain ⟨b2, o2, rfl, hbl2, -⟩ := rB.at (by rw [flat_len Td.cells 3 (fun _ => rfl)]; omega)
          have A := fun (w' : World) (hw : Below W2.heap.size W2 w') => td_cells (rA.below hw) j j1
          have B := fun (w' : World) (hw : Below W2.heap.size W2 w') => td_cells (rB.below hw) j j1
          clear rA rB
          generalize gs[j] = x at A B
          have hne := run_neq_td x
          have e0 := fun w' hw => (A w' hw).1
          have e1 := fun w' hw => (A w' hw).2.1
          have e2 := fun w' hw => (A w' hw).2.2
          have f0 := fun w' hw => (B w' hw).1
          have f1 := fun w' hw => (B w' hw).2.1
          have f2 := fun w' hw => (B w' hw).2.2
          clear A B
          go_wp2_with (fail)
          go_upto_region 11 with (fail)
          go_region_held3 (fun w' => Below W2.heap.size W2 w') (first | (with_reducible assumption) | exact hbx.drew) (first | fail)
          go_wp2_with (fail)
          exact ⟨⟨j + 1, by omega, by go_num, HBX.out.drew⟩, by simp [intOf]; omega⟩
        · have hje : j = q := by omega
          subst hje
          go_wp2_with (fail)
          go_ret
          exact ⟨rfl, HB.out.trans (HBX.out.mono HB.out.size)⟩
end Go.Proofs.Ythlingholhjcnaa
namespace Go.Proofs.Ythlingholhjcnaa
open Go.RowKit
variable {W W' w w' : World}

set_option maxRecDepth 20000 in
theorem run_neq_ft (a : Ft) (w : World) : (binOp .neq 42 (.agg #[.int .i64 a.file, .int .i64 a.line, .int .i64 a.err]) (.agg #[.int .i64 a.file, .int .i64 a.line, .int .i64 a.err])).run Try.prog w = .ok (.bool false) w := by
  go_simp
set_option maxRecDepth 20000 in
set_option maxHeartbeats 4000000 in
theorem equalF_any (pa pb : Option Addr) (ca cb : Nat) (l : List Ft) (h1 : Row W pa (l.flatMap Ft.cells)) (h2 : Row W pb (l.flatMap Ft.cells)) (hlen : l.length ≤ 1000000000000) :
    Calls Try.prog 14 #[.slice pa l.length ca, .slice pb l.length cb] W fun e w' => e = .returned (.bool true) ∧ Below W.heap.size W w' := by
  have HH := hid (And.intro h1 h2)
  obtain ⟨n, hn⟩ : ∃ n, n = l.length := ⟨_, rfl⟩
  rw [← hn] at hlen ⊢
  have HN := hid hn
  clear h1 h2 hn
  have hb0 : Below W.heap.size W W := Below.refl _ _
  go_enter Try.func14, Try.ntmps14
  go_wp2_with (fail)
  go_loopw [13] (fun i wr => ∃ (k : Nat), k ≤ n ∧ i = .int .i64 k ∧ Below W.heap.size W wr) (fun i _ => n - (intOf i).toNat)
  case atStart => exact ⟨0, by omega, rfl, hb0⟩
  case round =>
    rename World => wr
    obtain ⟨k, hk, rfl, hbw⟩ := hrel
    clear hb0
    have HBW := hid hbw
    by_cases hlt : k < n
    · have hkI : (k : Int) < n := by omega
      have k1 : k < l.length := by rw [← HN.out]; exact hlt
      have rA := HH.out.1
      have rB := HH.out.2
      obtain ⟨b1, o1, rfl, hbl1, -⟩ := rA.at (by rw [flat_len Ft.cells 3 (fun _ => rfl)]; omega)
      obtain ⟨b2, o2, rfl, hbl2, -⟩ := rB.at (by rw [flat_len Ft.cells 3 (fun _ => rfl)]; omega)
      have A := fun (w' : World) (hw : Below W.heap.size W w') => ft_cells (rA.below hw) k k1
      have B := fun (w' : World) (hw : Below W.heap.size W w') => ft_cells (rB.below hw) k k1
      clear rA rB
      generalize l[k] = x at A B
      have hne := run_neq_ft x
      have e0 := fun w' hw => (A w' hw).1
      have e1 := fun w' hw => (A w' hw).2.1
      have e2 := fun w' hw => (A w' hw).2.2
      have f0 := fun w' hw => (B w' hw).1
      have f1 := fun w' hw => (B w' hw).2.1
      have f2 := fun w' hw => (B w' hw).2.2
      clear A B
      go_wp2_with (fail)
      go_upto_region 6 with (fail)
      go_region_held3 (fun w' => Below W.heap.size W w') (first | (with_reducible assumption) | exact hbw.drew) (first | fail)
      go_wp2_with (fail)
      exact ⟨⟨k + 1, by omega, by go_num, HBW.out.drew⟩, by simp [intOf]; omega⟩
    · have hke : k = n := by omega
      subst hke
      go_wp2_with (fail)
      go_ret
      exact ⟨rfl, HBW.out⟩
theorem short_any (p : Option Addr) (n c : Nat) : Calls Try.prog 8 #[.slice p n c] W fun e w' => e = .returned (.bool (decide (n ≤ 300))) ∧ w' = W := by
  by_cases h : n ≤ 300
  · have hI : (n : Int) ≤ 300 := by omega
    go_enter Try.func8, Try.ntmps8
    go_wp2
    go_ret
    exact ⟨by simp [h], rfl⟩
  · have hI : ¬ (n : Int) ≤ 300 := by omega
    go_enter Try.func8, Try.ntmps8
    go_wp2
    go_ret
    exact ⟨by simp [h], rfl⟩
end Go.Proofs.Ythlingholhjcnaa
namespace Go.Proofs.Ythlingholhjcnaa
open Go.RowKit
variable {W W' w w' : World} {base : Nat} {X X' : FV}

/-- What a unit of its own says to whom reads it. -/
structure UnRd (W : World) (X : FV) : Prop where
  pv : ∃ p c, X.pv = .slice p X.ps.length c ∧ Row W p (X.ps.flatMap PtR.cells)
  mv : ∃ p c, X.mv = .slice p X.ms.length c ∧ Row W p (X.ms.flatMap Mk.cells)
  gv : ∃ p c, X.gv = .slice p X.gs.length c ∧ Row W p (X.gs.flatMap Td.cells)
  fv : ∃ p c, X.fv = .slice p X.fs.length c ∧ Row W p (X.fs.flatMap Ft.cells)
  pts : ∀ y ∈ X.ps, PtRd W y
  sm : Sm X 1000000000000
theorem Row.of_val {s : Sl PcR} {n : Nat} {xs : List Value} (h : W.ownsRow base 64 11 s.val n xs) : Row W s.p xs := by
  obtain ⟨p, c, e, hr⟩ := own_shape h
  have e : Value.slice s.p s.l.length s.c = .slice p n c := e
  cases e
  exact hr
theorem FIs.rd {n : Nat} (h : FIs W base X) (hs : Sm X n) (hn : n ≤ 1000000000000) : UnRd W X :=
  ⟨own_shape h.parts, own_shape h.marks, own_shape h.globals, own_shape h.faults, fun y hy => by
    obtain ⟨i, hi, rfl⟩ := List.getElem_of_mem hy
    exact ⟨Row.of_val (h.pcs i _ (List.getElem?_eq_getElem hi)), Nat.le_trans (hs.pcs _ hy) hn, fun x hx => ⟨(h.pok _ hy x hx).op, (h.pok _ hy x hx).b⟩⟩,
   ⟨Nat.le_trans hs.ps hn, Nat.le_trans hs.ms hn, Nat.le_trans hs.gs hn, Nat.le_trans hs.fs hn, fun y hy => Nat.le_trans (hs.pcs y hy) hn⟩⟩
theorem UnRd.below (h : UnRd W X) (hb : Below W.heap.size W w) : UnRd w X := by
  obtain ⟨⟨p, c, e, r⟩, ⟨p1, c1, e1, q1⟩, ⟨p2, c2, e2, q2⟩, ⟨p3, c3, e3, q3⟩, h5, h6⟩ := h
  exact ⟨⟨p, c, e, r.below hb⟩, ⟨p1, c1, e1, q1.below hb⟩, ⟨p2, c2, e2, q2.below hb⟩, ⟨p3, c3, e3, q3.below hb⟩, fun y hy => (h5 y hy).below hb, h6⟩
theorem same_rd (h1 : UnRd W X) (h2 : UnRd W X') (he : X.pl = X'.pl) : Calls Try.prog 13 #[.agg #[X.pv, X.mv, X.gv], .agg #[X'.pv, X'.mv, X'.gv]] W fun e w' => e = .returned (.bool true) ∧ Below W.heap.size W w' := by
  obtain ⟨⟨pa, ca, e1, r1⟩, ⟨ma, da, e2, r2⟩, ⟨ga, ea, e3, r3⟩, -, t1, s1⟩ := h1
  obtain ⟨⟨pb, cb, f1, q1⟩, ⟨mb, db, f2, q2⟩, ⟨gb, eb, f3, q3⟩, -, t2, s2⟩ := h2
  have hm : X'.ms = X.ms := (congrArg FP.ms he).symm
  have hg : X'.gs = X.gs := (congrArg FP.gs he).symm
  rw [hm] at f2 q2
  rw [hg] at f3 q3
  rw [e1, e2, e3, f1, f2, f3]
  exact same_any pa pb ma mb ga gb ca cb da db ea eb X.ps X'.ps X.ms X.gs r1 q1 r2 q2 r3 q3 t1 t2 s1.ps s1.ms s1.gs (congrArg FP.ps he)
theorem equal_rd (h1 : UnRd W X) (h2 : UnRd W X') (he : X.pl = X'.pl) : Calls Try.prog 14 #[X.fv, X'.fv] W fun e w' => e = .returned (.bool true) ∧ Below W.heap.size W w' := by
  obtain ⟨pa, ca, e1, r1⟩ := h1.fv
  obtain ⟨pb, cb, f1, q1⟩ := h2.fv
  have hf : X'.fs = X.fs := (congrArg FP.fs he).symm
  rw [hf] at f1 q1
  rw [e1, f1]
  exact equalF_any pa pb ca cb X.fs r1 q1 h1.sm.fs
end Go.Proofs.Ythlingholhjcnaa
namespace Go.Proofs.Ythlingholhjcnaa
open Go.RowKit
variable {W W' w w' : World}
def opB : Oc := ⟨3, ⟨0, false, false⟩, ⟨0, false, false⟩, 0, 0, 0, ⟨0, ⟨#[97]⟩, ⟨#[]⟩⟩, false, 0⟩
def rowB (n : Nat) : RwR := ⟨1, ⟨⟨some ⟨n + 1 + 1, 0, none⟩, 1, [⟨#[97]⟩]⟩, 1, ⟨⟨#[98, 46, 101, 113]⟩, ⟨some ⟨n, 0, none⟩, 1, [opB]⟩⟩, ⟨none, 0, []⟩, 0, ⟨none, 0, []⟩, ⟨none, 0, []⟩⟩⟩
/-- The world at begun's call. -/
structure Bg (W W4 : World) : Prop where
  eq : W4 = (((W.alloc (.cells #[.int .i64 3, .int .i64 0, .bool false, .bool false, .int .i64 0, .bool false, .bool false, .int .i64 0, .int .i64 0, .int .i64 0, .int .i64 0, .string ⟨#[97]⟩, .string ⟨#[]⟩, .bool false, .int .i64 0] 72)).alloc (.cells #[.string ⟨#[98, 46, 101, 113]⟩, .slice (some ⟨W.heap.size, 0, none⟩) 1 1] 25)).alloc (.cells #[.string ⟨#[97]⟩] 9)).alloc (.cells #[.int .i64 1, .slice (some ⟨W.heap.size + 1 + 1, 0, none⟩) 1 1, .int .i64 1, .string ⟨#[98, 46, 101, 113]⟩, .slice (some ⟨W.heap.size, 0, none⟩) 1 1, .slice none 0 0, .int .i64 0, .slice none 0 0, .slice none 0 0] 59)
  w : Below W.heap.size W W4
  one : Calls Try.prog 9 #[.int .i64 0, .slice (some ⟨W.heap.size + 1 + 1 + 1, 0, none⟩) 1 1] W4 (OneT W4 (FP.rows 0 [rowB W.heap.size]).1 (costs [rowB W.heap.size]))
theorem row_blkAt {b : Nat} {xs : List Value} {T : TypeId} {fz : Nat × Nat} (h : W.heap[b]? = some (.cells xs.toArray T fz)) : Row W (some ⟨b, 0, none⟩) xs := fun _ => ⟨b, 0, rfl, fun i hi => by
  rw [Nat.zero_add]
  simp [World.cell?, h, hi]⟩
theorem bg (W : World) : ∃ W4, Bg W W4 := by
  obtain ⟨W4, hW4⟩ : ∃ W4, W4 = (((W.alloc (.cells #[.int .i64 3, .int .i64 0, .bool false, .bool false, .int .i64 0, .bool false, .bool false, .int .i64 0, .int .i64 0, .int .i64 0, .int .i64 0, .string ⟨#[97]⟩, .string ⟨#[]⟩, .bool false, .int .i64 0] 72)).alloc (.cells #[.string ⟨#[98, 46, 101, 113]⟩, .slice (some ⟨W.heap.size, 0, none⟩) 1 1] 25)).alloc (.cells #[.string ⟨#[97]⟩] 9)).alloc (.cells #[.int .i64 1, .slice (some ⟨W.heap.size + 1 + 1, 0, none⟩) 1 1, .int .i64 1, .string ⟨#[98, 46, 101, 113]⟩, .slice (some ⟨W.heap.size, 0, none⟩) 1 1, .slice none 0 0, .int .i64 0, .slice none 0 0, .slice none 0 0] 59) := ⟨_, rfl⟩
  have hb : Below W.heap.size W W4 := by rw [hW4]; exact ((((Below.refl _ _).alloc (Nat.le_refl _) _).alloc (by simp) _).alloc (by simp <;> omega) _).alloc (by simp <;> omega) _
  have k0 : W4.heap[W.heap.size]? = some (.cells opB.cells.toArray 72 (0, 0)) := by
    rw [hW4]; exact (Below.heap_alloc _ _ _ (by simp <;> omega)).trans ((Below.heap_alloc _ _ _ (by simp <;> omega)).trans ((Below.heap_alloc _ _ _ (by simp)).trans (heap_alloc_new _ _)))
  have k2 : W4.heap[W.heap.size + 1 + 1]? = some (.cells #[.string ⟨#[97]⟩] 9 (0, 0)) := by
    rw [hW4]; exact (Below.heap_alloc _ _ _ (by simp <;> omega)).trans (heap_newAt _ _ _ (by simp))
  have k3 : W4.heap[W.heap.size + 1 + 1 + 1]? = some (.cells (rowB W.heap.size).cells.toArray 59 (0, 0)) := by
    rw [hW4]; exact heap_newAt _ _ _ (by simp)
  refine ⟨W4, hW4, hb, one_any 0 (some ⟨W.heap.size + 1 + 1 + 1, 0, none⟩) 1 [rowB W.heap.size] W4 (by rw [List.flatMap_cons, List.flatMap_nil, List.append_nil]; exact row_blkAt k3) ?_ (by simp) (by show costs [rowB 0] ≤ 3000000; decide)⟩
  intro r hr
  rw [List.mem_singleton.1 hr]
  unfold rowB
  refine ⟨⟨⟨row_blkAt k2, by (first | decide | (dsimp only; decide) | (dsimp only; simp; done)), by (first | decide | (dsimp only; decide) | (dsimp only; simp; done)), fun h => by cases h⟩, fun s hs => by rw [List.mem_singleton.1 hs]; decide⟩, by (unfold inI64; first | decide | (dsimp only; decide) | (simp; done)), ⟨by (first | decide | (dsimp only; decide) | (dsimp only; simp; done)), ⟨row_blkAt k0, by (first | decide | (dsimp only; decide) | (dsimp only; simp; done)), by (first | decide | (dsimp only; decide) | (dsimp only; simp; done)), fun h => by cases h⟩, fun y hy => ?_⟩, ⟨⟨Row.nil _ _, by (first | decide | (dsimp only; decide) | (dsimp only; simp; done)), by (first | decide | (dsimp only; decide) | (dsimp only; simp; done)), fun _ => rfl⟩, fun s hs => by cases hs⟩, by (unfold inI64; first | decide | (dsimp only; decide) | (simp; done)), ⟨⟨Row.nil _ _, by (first | decide | (dsimp only; decide) | (dsimp only; simp; done)), by (first | decide | (dsimp only; decide) | (dsimp only; simp; done)), fun _ => rfl⟩, fun s hs => by cases hs⟩, ⟨⟨Row.nil _ _, by (first | decide | (dsimp only; decide) | (dsimp only; simp; done)), by (first | decide | (dsimp only; decide) | (dsimp only; simp; done)), fun _ => rfl⟩, fun s hs => by cases hs⟩⟩
  rw [List.mem_singleton.1 hy]
  exact ⟨by (unfold inI64; first | decide | (dsimp only; decide) | (simp; done)), ⟨by (unfold inI64; first | decide | (dsimp only; decide) | (simp; done))⟩, ⟨by (unfold inI64; first | decide | (dsimp only; decide) | (simp; done))⟩, by (unfold inI64; first | decide | (dsimp only; decide) | (simp; done)), by (unfold inI64; first | decide | (dsimp only; decide) | (simp; done)), by (unfold inI64; first | decide | (dsimp only; decide) | (simp; done)), ⟨by (unfold inI64; first | decide | (dsimp only; decide) | (simp; done)), by (first | decide | (dsimp only; decide) | (dsimp only; simp; done)), by (first | decide | (dsimp only; decide) | (dsimp only; simp; done))⟩, by (unfold inI64; first | decide | (dsimp only; decide) | (simp; done))⟩
end Go.Proofs.Ythlingholhjcnaa
namespace Go.Proofs.Ythlingholhjcnaa
open Go.RowKit
variable {W W' w w' : World}
def pcB (k : Int) : Pc := ⟨k, 0, 1, ⟨#[98, 46, 101, 113]⟩, [opB], v00, 0, [], 0⟩
theorem rowsB (n : Nat) : (FP.rows 0 [rowB n]).1 = ⟨[⟨text0, 0, 1, [pcB 2]⟩], [⟨⟨#[97]⟩, 0, 1, 0, 0, false, v00⟩], [], []⟩ := by
  kernel_rfl
end Go.Proofs.Ythlingholhjcnaa
