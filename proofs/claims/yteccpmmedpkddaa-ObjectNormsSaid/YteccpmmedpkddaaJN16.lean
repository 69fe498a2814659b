/-
  Stable sorting at a row of structs: slices.SortStableFunc.
  Stable sorting of a row of the call's own: what it is behind it.
-/
import Derived.Test.YteccpmmedpkddaaJN15
import Derived.Test.YteccpmmedpkddaaJN6
import Derived.Test.YteccpmmedpkddaaJN1
import Derived.Shelf.SlSortCmp.NoneTotal
namespace Go.Proofs.Yteccpmmedpkddaa
open Go.Shelf Go.RowKit Go.Lib Go.Sort
section
variable {α : Type}
/-- A list in runs of bs elements: each in order, the numbers rising from run to run; the last one may be shorter. -/
inductive Ch (R : α → α → Bool) (ix : α → Nat) (bs : Nat) : List α → Prop
  | nil : Ch R ix bs []
  | last (l : List α) (h0 : 0 < l.length) (h1 : l.length ≤ bs) (hs : Srt R l) : Ch R ix bs l
  | cons (A r : List α) (hA : A.length = bs) (hs : Srt R A) (hr : Ch R ix bs r) (hc : ∀ x ∈ A, ∀ y ∈ r, ix x < ix y) : Ch R ix bs (A ++ r)
inductive Full (R : α → α → Bool) (ix : α → Nat) (bs : Nat) : List α → Prop
  | nil : Full R ix bs []
  | snoc (l A : List α) (hl : Full R ix bs l) (hA : A.length = bs) (hs : Srt R A) (hc : ∀ x ∈ l, ∀ y ∈ A, ix x < ix y) : Full R ix bs (l ++ A)
variable {R : α → α → Bool} {ix : α → Nat} {bs : Nat}
theorem Full.ch {l : List α} (h : Full R ix bs l) : ∀ r, Ch R ix bs r → (∀ x ∈ l, ∀ y ∈ r, ix x < ix y) → Ch R ix bs (l ++ r) := by
  induction h with
  | nil => intro r hr _; exact hr
  | snoc l A hl hA hs hc ih =>
    intro r hr hx
    rw [List.append_assoc]
    refine ih _ (.cons A r hA hs hr fun x hx' y hy => hx x (List.mem_append_right _ hx') y hy) fun x hx' y hy => ?_
    rcases List.mem_append.1 hy with h | h
    · exact hc x hx' y h
    · exact hx x (List.mem_append_left _ hx') y h
theorem Ch.short {l : List α} (h : Ch R ix bs l) (hl : l.length ≤ bs) : Srt R l := by
  cases h with
  | nil => exact List.Pairwise.nil
  | last _ _ _ hs => exact hs
  | cons A r hA hs hr hc =>
    have : r = [] := List.eq_nil_of_length_eq_zero (by simp at hl; omega)
    rw [this]; simpa using hs
theorem Ch.of_srt {l : List α} (hs : Srt R l) (hl : l.length ≤ bs) : Ch R ix bs l := by
  cases l with
  | nil => exact .nil
  | cons a l => exact .last _ (by simp) hl hs
theorem Ch.more {l : List α} (h : Ch R ix bs l) (hl : bs < l.length) : ∃ A r, l = A ++ r ∧ A.length = bs ∧ Srt R A ∧ Ch R ix bs r ∧ ∀ x ∈ A, ∀ y ∈ r, ix x < ix y := by
  cases h with
  | nil => simp at hl
  | last _ _ h1 _ => omega
  | cons A r hA hs hr hc => exact ⟨A, r, rfl, hA, hs, hr, hc⟩
theorem Ch.two {l : List α} (h : Ch R ix bs l) (hb : 0 < bs) (hl : 2 * bs ≤ l.length) : ∃ A B r, l = A ++ (B ++ r) ∧ A.length = bs ∧ B.length = bs ∧ Srt R A ∧ Srt R B ∧ Ch R ix bs r ∧ (∀ x ∈ A, ∀ y ∈ B, ix x < ix y) ∧ ∀ x ∈ A ++ B, ∀ y ∈ r, ix x < ix y := by
  obtain ⟨A, r, rfl, hA, hs, hr, hc⟩ := h.more (by omega)
  by_cases h2 : bs < r.length
  · obtain ⟨B, r', rfl, hB, hs2, hr2, hc2⟩ := hr.more h2
    refine ⟨A, B, r', rfl, hA, hB, hs, hs2, hr2, fun x hx y hy => hc x hx y (List.mem_append_left _ hy), fun x hx y hy => ?_⟩
    rcases List.mem_append.1 hx with h | h
    · exact hc x h y (List.mem_append_right _ hy)
    · exact hc2 x h y hy
  · refine ⟨A, r, [], by simp, hA, by simp at hl; omega, hs, hr.short (by omega), .nil, hc, fun x _ y hy => by cases hy⟩
end
variable {P : Program} {k : Nat} {α : Type} [Inhabited α]

/-- slices.symMergeCmpFunc. -/
theorem symMerge_all (T : StT P k) (F : P.funcs[82]? = some Try.f82) (F1 : P.funcs[81]? = some Try.f81) (F2 : P.funcs[78]? = some Try.f78) (enc : α → List Value) (cf : α → α → Int) (Rr : α → α → Bool) (hO : SWO Rr) (g : Nat) (cb : Array Value) (blk off cap : Nat) (d0 : Array α) (w0 : World)
    (eg : ∀ args w, (callFunc g args).run P w = .ok (.enter g args) w) (hcmp : CmpLays P g cb enc k cf blk off d0.size w0)
    (R : RowK enc k w0 blk off d0) (hsz : d0.size < 2305843009213693952) : ∀ N, SymC P enc k cf Rr g cb blk off cap d0 w0 N
  | 0 => fun _ _ _ _ _ _ _ _ _ h => absurd h (Nat.not_lt_zero _)
  | N + 1 => fun d w pre A B post hs S hd hN hA hB hsA hsB hx n x y z hn hx1 hy hz => by
    have IH := symMerge_all T F F1 F2 enc cf Rr hO g cb blk off cap d0 w0 eg hcmp R hsz N
    by_cases h1 : A.length = 1
    · obtain ⟨xa, rfl⟩ := List.length_eq_one_iff.1 h1
      exact symMerge_one T F2 enc cf Rr hO g cb blk off cap d0 d w0 w eg hcmp R hs S (by omega) pre xa B post hd hB hsB (fun y hy => hx xa (by simp) y hy) n hn hx1 (by simpa using hy) (by simpa using hz)
    by_cases h2 : B.length = 1
    · obtain ⟨yb, rfl⟩ := List.length_eq_one_iff.1 h2
      exact symMerge_last T F2 enc cf Rr hO g cb blk off cap d0 d w0 w eg hcmp R hs S (by omega) pre A yb post hd (by omega) hsA (fun x hx' => hx x hx' yb (by simp)) n hn hx1 hy (by simpa using hz)
    by_cases h3 : (pre.length + (pre.length + A.length + B.length)) / 2 < pre.length + A.length
    · exact symMerge_hi T F F1 F2 enc cf Rr hO g cb blk off cap d0 d w0 w eg hcmp R hs S (by omega) N IH pre A B post hd (by omega) (by omega) (by omega) hsA hsB hx n hn hx1 hy hz h3
    · exact symMerge_lo T F F1 F2 enc cf Rr hO g cb blk off cap d0 d w0 w eg hcmp R hs S (by omega) N IH pre A B post hd (by omega) (by omega) (by omega) hsA hsB hx n hn hx1 hy hz h3

def Snren : Go.Shelf.Ren := ⟨fun | 20 => 77 | n => n, fun | 24 => 78 | 22 => 76 | 3 => 3 | 25 => 80 | 4 => 4 | 0 => 0 | n => n, fun | n => n⟩
theorem insertion_at (T : StT P k) (L : Go.Proofs.SlLaysF0.n20 P Snren) (enc : α → List Value) (cf : α → α → Int) (hO : SWO (ltOf cf)) (ix : α → Nat) (g : Nat) (cb : Array Value) (blk off cap : Nat) (d0 d : Array α) (w0 w : World)
    (eg : ∀ args w, (callFunc g args).run P w = .ok (.enter g args) w) (hcmp : CmpLays P g cb enc k cf blk off d0.size w0)
    (R : RowK enc k w0 blk off d0) (hs : d0.size = d.size) (S : SWK enc k w0 blk off d w) (hsz : d.size < 2305843009213693952)
    (pre X post : List α) (hd : d.toList = pre ++ (X ++ post)) (hix : X.Pairwise fun x y => ix x < ix y) (n : Nat) (hn : n = d.size) {x y : Int} (hx1 : x = (pre.length : Nat)) (hy : y = (pre.length + X.length : Nat)) :
    Calls P 77 #[.slice (some ⟨blk, off, none⟩) n cap, .int .i64 x, .int .i64 y, .func (.func g) #[] cb] w fun e w' =>
      e = .returned (.tuple #[]) ∧ ∃ (X' : List α) (d' : Array α), d'.size = d.size ∧ X'.Perm X ∧ Srt (lexR (ltOf cf) ix) X' ∧ d'.toList = pre ++ (X' ++ post) ∧ SWK enc k w0 blk off d' w' := by
  subst hn hx1 hy
  have hdl : d.size = pre.length + X.length + post.length := by
    have := congrArg List.length hd
    simp at this; omega
  have hC : CmpLays P g cb enc k cf blk off d.size w := fun m os dk hdk x y => by
    obtain ⟨n0, os0, rfl⟩ := S
    rw [sortWorldK_on enc k w0 blk off n0 m d dk os0 os R.hblk hdk]
    exact hcmp _ _ dk (by omega) x y
  obtain ⟨X', h1, h2, h3⟩ := insertion_lex (ix := ix) hO (d := d) (pre := pre) (X := X) (post := post) (by rw [hd]; simp) hix
  have hs' : (Sort.insertionSort (ltOf cf) d pre.length (pre.length + X.length)).size = d.size := by
    rw [← Array.length_toList, h1, ← Array.length_toList, hd]
    simp [h2.length_eq]
  refine (AnyQ.insertionSortCmpFunc (P := P) (ρ := Snren) L k T.aE T.zE enc R.hk R.h1 cf g cb blk off cap pre.length (pre.length + X.length) d w eg hC (S.holds R.hblk R.hH hs.symm) (S.lt R.hblk) (by omega) (by omega) (by omega)).mono ?_
  rintro e w' ⟨rfl, n, os, rfl⟩
  exact ⟨rfl, X', _, hs', h2, h3, by rw [h1]; simp, S.on R.hblk n _ os hs'⟩

set_option maxHeartbeats 16000000 in
set_option maxRecDepth 1000000 in
/-- slices.stableCmpFunc. -/
theorem stable_any (T : StT P k) (F : P.funcs[82]? = some Try.f82) (F1 : P.funcs[81]? = some Try.f81) (F2 : P.funcs[78]? = some Try.f78) (F3 : P.funcs[71]? = some Try.f71) (L : Go.Proofs.SlLaysF0.n20 P Snren) (e59 : ∀ args w, (callFunc 77 args).run P w = .ok (.enter 77 args) w) (enc : α → List Value) (cf : α → α → Int) (hO : SWO (ltOf cf)) (ix : α → Nat) (g : Nat) (cb : Array Value) (blk off cap : Nat) (d0 : Array α) (w0 : World)
    (eg : ∀ args w, (callFunc g args).run P w = .ok (.enter g args) w) (hcmp : CmpLays P g cb enc k cf blk off d0.size w0)
    (R : RowK enc k w0 blk off d0) (hsz : d0.size < 1152921504606846976) (hix : d0.toList.Pairwise fun x y => ix x < ix y) :
    Calls P 71 #[.slice (some ⟨blk, off, none⟩) d0.size cap, .int .i64 (d0.size : Nat), .func (.func g) #[] cb] w0 fun e w' =>
      e = .returned (.tuple #[]) ∧ ∃ d' : Array α, d'.size = d0.size ∧ d'.toList.Perm d0.toList ∧ Srt (lexR (ltOf cf) ix) d'.toList ∧ SWK enc k w0 blk off d' w' := by
  have mixed := T.mixed; have t0 := T.t0; have a0 := T.a0; have z0 := T.z0; have v0 := T.v0; have t3 := T.t3; have a3 := T.a3; have z3 := T.z3; have v3 := T.v3; have t4 := T.t4; have a4 := T.a4; have z4 := T.z4; have v4 := T.v4; have t22 := T.t22; have a22 := T.a22; have z22 := T.z22; have v22 := T.v22; have t25 := T.t25; have a25 := T.a25; have z25 := T.z25; have v25 := T.v25
  have e60 : ∀ args w, (callFunc 78 args).run P w = .ok (.enter 78 args) w := enters_of F2 (by kernel_rfl) rfl
  have hR := swo_lex (ix := ix) hO
  obtain ⟨Rr, hRr⟩ : ∃ Rr, Rr = lexR (ltOf cf) ix := ⟨_, rfl⟩
  rw [← hRr] at hR
  have hcr : ∀ A B : List α, (∀ x ∈ A, ∀ y ∈ B, ix x < ix y) → ∀ x ∈ A, ∀ y ∈ B, ltOf cf y x = Rr y x := fun A B h x hx y hy => by rw [hRr]; exact (lex_cross (h x hx y hy)).symm
  have HCR : Aside _ := hcr
  have S0 : Aside (SWK enc k w0 blk off d0 w0) := SWK.start R.hH
  have HC : Aside _ := hcmp
  have HIX : Aside (d0.toList.Pairwise fun x y => ix x < ix y) := hix
  have hins : ∀ (d : Array α) (w : World) (pre X post : List α), d.size = d0.size → SWK enc k w0 blk off d w → d.toList = pre ++ (X ++ post) → (X.Pairwise fun x y => ix x < ix y) → ∀ x y : Int, x = (pre.length : Nat) → y = (pre.length + X.length : Nat) → ∀ fv, fv = Value.func (.func g) #[] cb →
    Calls P 77 #[.slice (some ⟨blk, off, none⟩) d0.size cap, .int .i64 x, .int .i64 y, fv] w fun e w' =>
      e = .returned (.tuple #[]) ∧ ∃ (X' : List α) (d' : Array α), d'.size = d.size ∧ X'.Perm X ∧ Srt Rr X' ∧ d'.toList = pre ++ (X' ++ post) ∧ SWK enc k w0 blk off d' w' := fun d w pre X post hs S hd hX x y hx hy fv hf => by
    subst hf
    rw [hRr]
    exact insertion_at T L enc cf hO ix g cb blk off cap d0 d w0 w eg hcmp R hs.symm S (by omega) pre X post hd hX d0.size hs.symm hx hy
  have hsym : ∀ N, SymC P enc k cf Rr g cb blk off cap d0 w0 N := fun N => symMerge_all T F F1 F2 enc cf Rr hR g cb blk off cap d0 w0 eg hcmp R (by omega) N
  have HINS : Aside _ := hins
  have HSYM : Aside _ := hsym
  have HRR : Aside _ := hRr
  clear hins hsym hcr hcmp hix hRr hR
  rw [← HRR.out]
  obtain ⟨n, hn⟩ : ∃ n, n = d0.size := ⟨_, rfl⟩
  have HN : Aside _ := hn
  rw [← hn] at hsz ⊢
  clear hn
  go_enter F3, Try.ntmps71
  go_wp2
  go_loopg [7, 8] n (fun kx s7 s8 wr => ∃ (a : Nat) (dk : Array α) (D X : List α), s7 = .int .i64 a ∧ s8 = .int .i64 ((a : Int) + 20) ∧ a ≤ n ∧ n - a ≤ kx ∧
    Aside (dk.size = d0.size ∧ dk.toList = D ++ X ∧ D.length = a ∧ Full Rr ix 20 D ∧ (X.Pairwise fun x y => ix x < ix y) ∧ (∀ x ∈ D, ∀ y ∈ X, ix x < ix y) ∧ dk.toList.Perm d0.toList) ∧ Aside (SWK enc k w0 blk off dk wr))
  case atStart => exact ⟨0, d0, [], d0.toList, by go_num, by go_num, by omega, by omega, ⟨rfl, rfl, rfl, .nil, HIX.out, (fun x hx => absurd hx List.not_mem_nil), List.Perm.refl _⟩, S0⟩
  case round =>
    clear S0
    obtain ⟨a, dk, D, X, rfl, rfl, han, hkx, HI, S1⟩ := hrel
    by_cases hlt : a + 20 ≤ n
    · have hltz : (a : Int) + 20 ≤ (n : Int) := by omega
      go_wp2_with fail
      go_at_fn 77
      obtain ⟨i1, i2, i3, i4, i5, i6, i7⟩ := HI.out
      have hl : D.length + X.length = n := by
        have := congrArg List.length i2
        rw [Array.length_toList, List.length_append] at this
        have := HN.out; omega
      have hcon := HINS.out dk wr D (X.take 20) (X.drop 20) i1 S1.out (by rw [i2, List.take_append_drop]) (i5.sublist (List.take_sublist _ _)) (a : Int) ((a : Int) + 20) (by rw [i3]) (by rw [List.length_take]; omega) _ rfl
      rw [← HN.out] at hcon
      refine hcon.mono ?_
      rintro _ w1 ⟨rfl, X', d1, k1, k2, k3, k4, k5⟩
      have hcross : ∀ x ∈ X', ∀ y ∈ X.drop 20, ix x < ix y := fun x hx y hy => by
        have := List.pairwise_append.1 (show (X.take 20 ++ X.drop 20).Pairwise _ by rw [List.take_append_drop]; exact i5)
        exact this.2.2 x (k2.mem_iff.1 hx) y hy
      have R1 : Aside (d1.size = d0.size ∧ d1.toList = (D ++ X') ++ X.drop 20 ∧ (D ++ X').length = a + 20 ∧ Full Rr ix 20 (D ++ X') ∧ ((X.drop 20).Pairwise fun x y => ix x < ix y) ∧ (∀ x ∈ D ++ X', ∀ y ∈ X.drop 20, ix x < ix y) ∧ d1.toList.Perm d0.toList) := by
        have e20 : X'.length = 20 := by rw [k2.length_eq, List.length_take]; omega
        refine ⟨by omega, by rw [k4]; simp, by rw [List.length_append]; omega, .snoc _ _ i4 e20 k3 fun x hx y hy => i6 x hx y (List.mem_of_mem_take (k2.mem_iff.1 hy)), i5.sublist (List.drop_sublist _ _), fun x hx y hy => ?_, ?_⟩
        · rcases List.mem_append.1 hx with h | h
          · exact i6 x h y (List.mem_of_mem_drop hy)
          · exact hcross x h y hy
        · refine List.Perm.trans ?_ i7
          rw [k4, i2]
          refine List.Perm.append_left D ?_
          conv => rhs; rw [← List.take_append_drop 20 X]
          exact k2.append_right _
      have S2 : Aside _ := k5
      clear hcon i1 i2 i3 i4 i5 i6 i7 k1 k2 k3 k4 k5 S1 hcross hl
      go_wp2
      go_roundg (n - (a + 20))
      case measure => omega
      case rel => exact ⟨a + 20, d1, D ++ X', X.drop 20, by go_num, by go_num, by omega, Nat.le_refl _, R1, S2⟩
    · have hltz : ¬ (a : Int) + 20 ≤ (n : Int) := by omega
      go_wp2_with fail
      go_at_fn 77
      obtain ⟨i1, i2, i3, i4, i5, i6, i7⟩ := HI.out
      have hl : D.length + X.length = n := by
        have := congrArg List.length i2
        rw [Array.length_toList, List.length_append] at this
        have := HN.out; omega
      have hcon := HINS.out dk wr D X [] i1 S1.out (by rw [i2, List.append_nil]) i5 (a : Int) (n : Int) (by rw [i3]) (by omega) _ rfl
      rw [← HN.out] at hcon
      refine hcon.mono ?_
      rintro _ w1 ⟨rfl, X', d1, k1, k2, k3, k4, k5⟩
      have hl2 : X'.length = X.length := k2.length_eq
      have R1 : Aside (d1.size = d0.size ∧ Ch Rr ix 20 d1.toList ∧ d1.toList.Perm d0.toList) := by
        refine ⟨by omega, ?_, ?_⟩
        · rw [k4, List.append_nil]
          exact i4.ch _ (Ch.of_srt k3 (by omega)) fun x hx y hy => i6 x hx y (k2.mem_iff.1 hy)
        · refine List.Perm.trans ?_ i7
          rw [k4, i2, List.append_nil]
          exact k2.append_left D
      have S2 : Aside _ := k5
      clear hcon i1 i2 i3 i4 i5 i6 i7 k1 k2 k3 k4 k5 S1 hl hl2 HI
      go_wp2
      go_loopg [6] n (fun kx s6 wr => ∃ (bs : Nat) (dk : Array α), s6 = .int .i64 bs ∧ 20 ≤ bs ∧ bs ≤ 2 * n + 20 ∧ n - bs ≤ kx ∧
        Aside (dk.size = d0.size ∧ Ch Rr ix bs dk.toList ∧ dk.toList.Perm d0.toList) ∧ Aside (SWK enc k w0 blk off dk wr))
      case atStart => exact ⟨20, d1, rfl, by omega, by omega, by omega, R1, S2⟩
      case round =>
        clear S2 R1
        obtain ⟨bs, dk, rfl, h20, hbs, hkx2, HI, S1⟩ := hrel
        by_cases hbn : bs < n
        · have hbnz : (bs : Int) < (n : Int) := by omega
          go_wp2
          go_loopg [7, 8] n (fun kx s7 s8 wr => ∃ (a : Nat) (dk : Array α) (D X : List α), s7 = .int .i64 a ∧ s8 = .int .i64 ((a : Int) + 2 * (bs : Int)) ∧ a ≤ n ∧ n - a ≤ kx ∧
            Aside (dk.size = d0.size ∧ dk.toList = D ++ X ∧ D.length = a ∧ Full Rr ix (2 * bs) D ∧ Ch Rr ix bs X ∧ (∀ x ∈ D, ∀ y ∈ X, ix x < ix y) ∧ dk.toList.Perm d0.toList) ∧ Aside (SWK enc k w0 blk off dk wr))
          case atStart => exact ⟨0, dk, [], dk.toList, by go_num, by go_num, by omega, by omega, ⟨HI.out.1, rfl, rfl, .nil, HI.out.2.1, (fun x hx => absurd hx List.not_mem_nil), HI.out.2.2⟩, S1⟩
          case round =>
            clear S1 HI
            obtain ⟨a, dk, D, X, rfl, rfl, han, hkx3, HI, S1⟩ := hrel
            by_cases hlt : a + 2 * bs ≤ n
            · have hltz : (a : Int) + 2 * (bs : Int) ≤ (n : Int) := by omega
              obtain ⟨i1, i2, i3, i4, i5, i6, i7⟩ := HI.out
              have hl : D.length + X.length = n := by
                have := congrArg List.length i2
                rw [Array.length_toList, List.length_append] at this
                have := HN.out; omega
              obtain ⟨A, B, r, rfl, hA, hB, hsA, hsB, hr, hAB, hABr⟩ := i5.two (by omega) (by omega)
              have hcon := fun x y z hx hy hz => HSYM.out (A.length + B.length + 1) dk wr D A B r i1.symm S1.out i2 (by omega) (by omega) (by omega) hsA hsB (HCR.out A B hAB) n x y z (by have := HN.out; omega) hx hy hz
              have HCON : Aside _ := hcon
              have HII : Aside _ := And.intro i1 (And.intro i2 (And.intro i3 (And.intro i4 (And.intro hr (And.intro i6 (And.intro i7 (And.intro hAB (And.intro hABr (And.intro hA hB)))))))))
              clear hcon i1 i2 i3 i4 i5 i6 i7 hA hB hsA hsB hr hAB hABr HI hl
              go_wp2_with fail
              go_at_fn 78
              obtain ⟨i1, i2, i3, i4, hr, i6, i7, hAB, hABr, hA, hB⟩ := HII.out
              refine (HCON.out _ _ _ (by omega) (by omega) (by omega)).mono ?_
              rintro _ w1 ⟨rfl, C, d1, k1, k2, k3, k4, k5⟩
              have R1 : Aside (d1.size = d0.size ∧ d1.toList = (D ++ C) ++ r ∧ (D ++ C).length = a + 2 * bs ∧ Full Rr ix (2 * bs) (D ++ C) ∧ Ch Rr ix bs r ∧ (∀ x ∈ D ++ C, ∀ y ∈ r, ix x < ix y) ∧ d1.toList.Perm d0.toList) := by
                have eC : C.length = 2 * bs := by rw [k2.length_eq, List.length_append]; omega
                refine ⟨by omega, by rw [k4]; simp, by rw [List.length_append]; omega, .snoc _ _ i4 eC k3 fun x hx y hy => i6 x hx y (by rw [← List.append_assoc]; exact List.mem_append_left _ (k2.mem_iff.1 hy)), hr, fun x hx y hy => ?_, ?_⟩
                · rcases List.mem_append.1 hx with h | h
                  · exact i6 x h y (List.mem_append_right _ (List.mem_append_right _ hy))
                  · exact hABr x (k2.mem_iff.1 h) y hy
                · refine List.Perm.trans ?_ i7
                  rw [k4, i2]
                  refine List.Perm.append_left D ?_
                  rw [← List.append_assoc]
                  exact k2.append_right _
              have S2 : Aside _ := k5
              clear i1 i2 i3 i4 hr i6 i7 hAB hABr hA hB k1 k2 k3 k4 k5 S1 HII HCON
              go_wp2
              go_roundg (n - (a + 2 * bs))
              case measure => omega
              case rel => exact ⟨a + 2 * bs, d1, D ++ C, r, by go_num, by go_num, by omega, Nat.le_refl _, R1, S2⟩
            · have hltz : ¬ (a : Int) + 2 * (bs : Int) ≤ (n : Int) := by omega
              have hl : D.length = a ∧ D.length + X.length = n := by
                obtain ⟨i1, i2, i3, i4, i5, i6, i7⟩ := HI.out
                have := congrArg List.length i2
                rw [Array.length_toList, List.length_append] at this
                have := HN.out; omega
              have HL : Aside _ := hl
              clear hl
              by_cases hm : a + bs < n
              · have hmz : (a : Int) + (bs : Int) < (n : Int) := by omega
                obtain ⟨i1, i2, i3, i4, i5, i6, i7⟩ := HI.out
                have hl := HL.out
                obtain ⟨A, B, rfl, hA, hsA, hB, hAB⟩ := i5.more (by omega)
                rw [List.length_append] at hl
                have hsB := hB.short (by omega)
                have hcon := fun x y z hx hy hz => HSYM.out (A.length + B.length + 1) dk wr D A B [] i1.symm S1.out (by rw [i2, List.append_nil]) (by omega) (by omega) (by omega) hsA hsB (HCR.out A B hAB) n x y z (by have := HN.out; omega) hx hy hz
                have HCON : Aside _ := hcon
                have HLB : Aside _ := And.intro hl hA
                clear hcon i1 i2 i3 i4 i5 i6 i7 hA hB hsA hsB hAB hl
                go_wp2_with fail
                go_at_fn 78
                refine (HCON.out _ _ _ (by have := HLB.out; omega) (by have := HLB.out; omega) (by have := HLB.out; omega)).mono ?_
                rintro _ w1 ⟨rfl, C, d1, k1, k2, k3, k4, k5⟩
                have R1 : Aside (d1.size = d0.size ∧ Ch Rr ix (2 * bs) d1.toList ∧ d1.toList.Perm d0.toList) := by
                  obtain ⟨i1, i2, i3, i4, i5, i6, i7⟩ := HI.out
                  have hlb := HLB.out
                  have eC : C.length ≤ 2 * bs := by rw [k2.length_eq, List.length_append]; omega
                  refine ⟨by omega, ?_, ?_⟩
                  · rw [k4, List.append_nil]
                    exact i4.ch _ (Ch.of_srt k3 eC) fun x hx y hy => i6 x hx y (k2.mem_iff.1 hy)
                  · refine List.Perm.trans ?_ i7
                    rw [k4, i2, List.append_nil]
                    exact k2.append_left D
                have S2 : Aside _ := k5
                clear k1 k2 k3 k4 k5 S1 HI HCON HLB HL
                go_wp2
                go_roundg (n - 2 * bs)
                case measure => omega
                case rel => exact ⟨2 * bs, d1, by go_num, by omega, by omega, Nat.le_refl _, R1, S2⟩
              · have hmz : ¬ (a : Int) + (bs : Int) < (n : Int) := by omega
                have R1 : Aside (dk.size = d0.size ∧ Ch Rr ix (2 * bs) dk.toList ∧ dk.toList.Perm d0.toList) := by
                  obtain ⟨i1, i2, i3, i4, i5, i6, i7⟩ := HI.out
                  have hl := HL.out
                  refine ⟨by omega, ?_, i7⟩
                  rw [i2]
                  exact i4.ch _ (Ch.of_srt (i5.short (by omega)) (by omega)) i6
                clear HI HL
                go_wp2
                go_roundg (n - 2 * bs)
                case measure => omega
                case rel => exact ⟨2 * bs, dk, by go_num, by omega, by omega, Nat.le_refl _, R1, S1⟩
        · have hbnz : ¬ (bs : Int) < (n : Int) := by omega
          go_wp2
          go_end0
          obtain ⟨i1, i2, i3⟩ := HI.out
          exact ⟨rfl, dk, by have := HN.out; omega, i3, i2.short (by rw [Array.length_toList]; have := HN.out; omega), S1.out⟩

set_option maxHeartbeats 4000000 in
/-- slices.SortStableFunc. -/
theorem sortStable_any (T : StT P k) (F : P.funcs[82]? = some Try.f82) (F1 : P.funcs[81]? = some Try.f81) (F2 : P.funcs[78]? = some Try.f78) (F3 : P.funcs[71]? = some Try.f71) (F4 : P.funcs[52]? = some Try.f52) (L : Go.Proofs.SlLaysF0.n20 P Snren) (e59 : ∀ args w, (callFunc 77 args).run P w = .ok (.enter 77 args) w) (enc : α → List Value) (cf : α → α → Int) (hO : SWO (ltOf cf)) (ix : α → Nat) (g : Nat) (cb : Array Value) (blk off cap : Nat) (d0 : Array α) (w0 : World)
    (eg : ∀ args w, (callFunc g args).run P w = .ok (.enter g args) w) (hcmp : CmpLays P g cb enc k cf blk off d0.size w0)
    (R : RowK enc k w0 blk off d0) (hsz : d0.size < 1152921504606846976) (hix : d0.toList.Pairwise fun x y => ix x < ix y) :
    Calls P 52 #[.slice (some ⟨blk, off, none⟩) d0.size cap, .func (.func g) #[] cb] w0 fun e w' =>
      e = .returned (.tuple #[]) ∧ ∃ d' : Array α, d'.size = d0.size ∧ d'.toList.Perm d0.toList ∧ Srt (lexR (ltOf cf) ix) d'.toList ∧ SWK enc k w0 blk off d' w' := by
  have mixed := T.mixed; have t0 := T.t0; have a0 := T.a0; have z0 := T.z0; have v0 := T.v0; have t3 := T.t3; have a3 := T.a3; have z3 := T.z3; have v3 := T.v3; have t4 := T.t4; have a4 := T.a4; have z4 := T.z4; have v4 := T.v4; have t22 := T.t22; have a22 := T.a22; have z22 := T.z22; have v22 := T.v22; have t25 := T.t25; have a25 := T.a25; have z25 := T.z25; have v25 := T.v25
  have e52 : ∀ args w, (callFunc 71 args).run P w = .ok (.enter 71 args) w := enters_of F3 (by kernel_rfl) rfl
  have hcon := stable_any T F F1 F2 F3 L e59 enc cf hO ix g cb blk off cap d0 w0 eg hcmp R hsz hix
  have HCON : Aside _ := hcon
  clear hcon hix
  go_enter F4, Try.ntmps52
  go_wp2_with fail
  go_at_fn 71
  refine Calls.mono HCON.out ?_
  rintro _ w1 ⟨rfl, h⟩
  have H : Aside _ := h
  clear h
  go_wp2
  go_end0
  exact ⟨rfl, H.out⟩
end Go.Proofs.Yteccpmmedpkddaa
namespace Go.Proofs.Yteccpmmedpkddaa
open Go.RowKit Go.Lib Go.Sort
theorem own_putRow {β : Type} [Inhabited β] (enc : β → Value) {w : World} {base g n c size : Nat} {e : TypeId} {xs : List Value} (h : w.ownsRow base e size (.slice (some ⟨g, 0, none⟩) n c) n xs) (d : Array β) (hd : d.size = n * size) (m : Nat) (os : Array Obj) :
    (grow (putRow enc (Sort.ahead w m) g 0 d) os).ownsRow base e size (.slice (some ⟨g, 0, none⟩) n c) n (d.toList.map enc) ∧ w.grownBy (grow (putRow enc (Sort.ahead w m) g 0 d) os) (some g) := by
  rcases h.2 with ⟨h0, _⟩ | ⟨g', cap', cur, hv, hge, hh, hn, hcap, hsz, htake⟩
  · cases h0
  · cases hv
    have hlt : g < w.heap.size := (Array.getElem?_eq_some_iff.1 hh).1
    have hhb : ∀ k, k < w.heap.size → (grow (putRow enc (Sort.ahead w m) g 0 d) os).heap[k]? = (putRow enc (Sort.ahead w m) g 0 d).heap[k]? := fun k hk => by
      show ((putRow enc (Sort.ahead w m) g 0 d).heap ++ os)[k]? = _
      rw [Array.getElem?_append_left]
      show k < (w.heap.modify g _).size
      simpa using hk
    have hg : (grow (putRow enc (Sort.ahead w m) g 0 d) os).heap[g]? = some (.cells (putCells enc 0 d cur) e (0, 0)) := by
      rw [hhb g hlt]
      show (w.heap.modify g (onCells (putCells enc 0 d)))[g]? = _
      rw [Array.getElem?_modify, if_pos rfl, hh]; rfl
    have hlen : n * size ≤ cur.size := by rw [hsz]; exact Nat.mul_le_mul_right _ hn
    refine ⟨⟨by simpa using hd, .inr ⟨g, c, putCells enc 0 d cur, rfl, hge, hg, hn, hcap, by unfold putCells; simpa using hsz, ?_⟩⟩, ?_⟩
    · refine List.ext_getElem (by simp [putCells, hd]; omega) fun i h1 h2 => ?_
      have hi : i < d.size := by simpa using h2
      have : i < cur.size := by omega
      simp only [List.getElem_take, Array.getElem_toList, List.getElem_map]
      unfold putCells
      rw [Array.getElem_mapIdx, if_pos ⟨Nat.zero_le _, by omega⟩, Nat.sub_zero, getElem!_pos d i hi]
    · refine ⟨rfl, rfl, rfl, ?_, fun k hk hne => ?_⟩
      · show _ ≤ ((w.heap.modify g _) ++ os).size
        simp
      · rw [hhb k hk]
        show (w.heap.modify g _)[k]? = _
        rw [Array.getElem?_modify, if_neg (fun e => hne (by rw [e]))]
theorem own_holds {β : Type} [Inhabited β] (enc : β → Value) {w : World} {base g n c size : Nat} {e : TypeId} {xs : List Value} (h : w.ownsRow base e size (.slice (some ⟨g, 0, none⟩) n c) n xs) (d : Array β) (hd : d.toList.map enc = xs) : Holds enc w g 0 d := fun j hj => by
  have hl : j < xs.length := by rw [← hd]; simpa using hj
  obtain ⟨h1, h2⟩ := own_cell h j hl
  have e : xs[j] = enc d[j]! := by
    subst hd
    simp [getElem!_pos d j hj]
  rw [Nat.zero_add]
  exact ⟨by rw [h1, e], h2⟩
theorem flatK_list {α : Type} [Inhabited α] (enc : α → List Value) (k : Nat) (hk : ∀ x, (enc x).length = k) (d : Array α) : (flatK enc k d).toList = d.toList.flatMap enc := by
  have hl : (d.toList.flatMap enc).length = k * d.size := by have := flat_len enc k hk d.toList; simpa using this
  refine List.ext_getElem (by rw [hl]; simp [Nat.mul_comm]) fun i h1 h2 => ?_
  have hi : i < d.size * k := by simpa using h1
  have hk0 : 0 < k := Nat.pos_of_ne_zero (fun e => by subst e; simp at hi)
  have hq : i / k < d.size := Nat.div_lt_of_lt_mul (by rw [Nat.mul_comm]; exact hi)
  have hr : i % k < k := Nat.mod_lt _ hk0
  have e := flat_get enc k hk d.toList (i / k) (by simpa using hq) (i % k) hr
  rw [Nat.div_add_mod, List.getElem?_eq_getElem h2] at e
  have e2 := get_flatK enc k d i hi
  rw [Array.getElem_toList]
  rw [getElem!_pos _ i (by simpa using hi)] at e2
  rw [e2, getElem!_pos d _ hq, getElem!_pos _ (i % k) (by rw [hk]; exact hr)]
  rw [Array.getElem_toList, List.getElem?_eq_getElem (by rw [hk]; exact hr)] at e
  injection e with e
  exact e.symm

theorem Snlays : Go.Proofs.SlLaysF0.n20 Try.prog Snren := {
  mixed := by kernel_rfl
  f20 := ⟨Try.f77.name, by decide, Try.func77.trans (congrArg some (by kernel_rfl))⟩
  t0 := Try.underlying0
  a0 := Try.isAgg0
  z0 := Try.sizeOf0
  v0 := Try.zeroValue0
  t3 := Try.underlying3
  a3 := Try.isAgg3
  z3 := Try.sizeOf3
  v3 := Try.zeroValue3
  t4 := Try.underlying4
  a4 := Try.isAgg4
  z4 := Try.sizeOf4
  v4 := Try.zeroValue4
  t22 := Try.underlying76
  a22 := Try.isAgg76
  z22 := Try.sizeOf76
  v22 := Try.zeroValue76
  t25 := Try.underlying80
  a25 := Try.isAgg80
  z25 := Try.sizeOf80
  v25 := Try.zeroValue80 }
theorem Sntypes {k : Nat} (aE : ∀ w, (isAgg 78).run Try.prog w = .ok true w) (zE : ∀ w, (Go.sizeOf 78).run Try.prog w = .ok k w) : StT Try.prog k := {
  mixed := by kernel_rfl
  t0 := Try.underlying0
  a0 := Try.isAgg0
  z0 := Try.sizeOf0
  v0 := Try.zeroValue0
  t3 := Try.underlying3
  a3 := Try.isAgg3
  z3 := Try.sizeOf3
  v3 := Try.zeroValue3
  t4 := Try.underlying4
  a4 := Try.isAgg4
  z4 := Try.sizeOf4
  v4 := Try.zeroValue4
  t22 := Try.underlying76
  a22 := Try.isAgg76
  z22 := Try.sizeOf76
  v22 := Try.zeroValue76
  t25 := Try.underlying80
  a25 := Try.isAgg80
  z25 := Try.sizeOf80
  v25 := Try.zeroValue80
  t39 := Try.underlying98
  a39 := Try.isAgg98
  z39 := Try.sizeOf98
  v39 := Try.zeroValue98
  aE := aE
  zE := zE }
theorem own_empty {w : World} {base : Nat} {e : TypeId} {size : Nat} {v : Value} {xs : List Value} (h : w.ownsRow base e size v 0 xs) : ∃ p c, v = .slice p 0 c := by
  rcases h.2 with ⟨rfl, _⟩ | ⟨g, c, cur, rfl, _⟩
  · exact ⟨_, _, rfl⟩
  · exact ⟨_, _, rfl⟩
theorem stable_none (p : Option Addr) (cap : Nat) (fv : Value) (w : World) : Calls Try.prog 71 #[.slice p 0 cap, .int .i64 0, fv] w fun e w' => e = .returned (.tuple #[]) ∧ w' = w := by
  have hcon := AnyF.insertionSortCmpFunc_none (P := Try.prog) (ρ := Snren) Snlays p cap fv w
  have HC : Hid (Calls Try.prog 77 #[.slice p 0 cap, .int .i64 0, .int .i64 0, fv] w fun e w' => e = .returned (.tuple #[]) ∧ w' = w) := hcon
  clear hcon
  go_enter Try.func71, Try.ntmps71
  go_wp2_with fail
  go_loopw [7, 8] (fun u v wr => u = .int .i64 0 ∧ v = .int .i64 20 ∧ wr = w) (fun _ _ _ => 0)
  case atStart => exact ⟨rfl, rfl, rfl⟩
  case round =>
    obtain ⟨rfl, rfl, rfl⟩ := hrel
    go_wp2_with (go_at_call 77; go_loud ((with_reducible refine HC.out.mono ?_); rintro e w2 ⟨rfl, hw2⟩; rw [hw2]; clear hw2))
    go_loopw [6] (fun v wr2 => v = .int .i64 20 ∧ wr2 = wr) (fun _ _ => 0)
    case atStart => exact ⟨rfl, rfl⟩
    case round =>
      obtain ⟨rfl, rfl⟩ := hrel
      go_wp2_with fail
      go_end0
      exact ⟨rfl, rfl⟩
theorem sortStable_none (p : Option Addr) (cap : Nat) (fv : Value) (w : World) : Calls Try.prog 52 #[.slice p 0 cap, fv] w fun e w' => e = .returned (.tuple #[]) ∧ w' = w := by
  have HC := hid (stable_none p cap fv w)
  go_enter Try.func52, Try.ntmps52
  go_wp2_with (go_at_call 71; go_loud ((with_reducible refine HC.out.mono ?_); rintro e w2 ⟨rfl, hw2⟩; rw [hw2]; clear hw2))
  go_end0
  exact ⟨rfl, rfl⟩
/-- In order, and alike ones as they stood. -/
def StableOf {β : Type} (lt : β → β → Bool) (l l' : List β) : Prop := ∃ z : List (β × Nat), z.Perm l.zipIdx ∧ Srt (lexR (fun a b => lt a.1 b.1) Prod.snd) z ∧ l' = z.map Prod.fst
theorem StableOf.perm {β : Type} {lt : β → β → Bool} {l l' : List β} (h : StableOf lt l l') : l'.Perm l := by
  obtain ⟨z, h1, _, rfl⟩ := h
  refine (h1.map Prod.fst).trans ?_
  rw [List.zipIdx_map_fst]
theorem StableOf.sorted {β : Type} {lt : β → β → Bool} {l l' : List β} (h : StableOf lt l l') : l'.Pairwise fun a b => lt b a = false := by
  obtain ⟨z, _, h2, rfl⟩ := h
  rw [List.pairwise_map]
  refine h2.imp fun {a b} hab => ?_
  unfold lexR at hab
  rw [Bool.or_eq_false_iff] at hab
  exact hab.1
set_option maxHeartbeats 1000000 in
theorem sortStable_own {β : Type} [Inhabited β] {k : Nat} (aE : ∀ w, (isAgg 78).run Try.prog w = .ok true w) (zE : ∀ w, (Go.sizeOf 78).run Try.prog w = .ok k w) (enc : β → List Value) (hk : ∀ x, (enc x).length = k) (h1 : ∀ x, ∀ v ∈ enc x, v.oneCell' = true) (cf : β → β → Int) (hO : SWO (ltOf cf)) (g : Nat) (cb : Array Value)
    (eg : ∀ args w, (callFunc g args).run Try.prog w = .ok (.enter g args) w) {base : Nat} {v : Value} {l : List β} {w : World} (h : w.ownsRow base 78 k v l.length (l.flatMap enc)) (hlen : l.length ≤ 1000000000)
    (hcmp : ∀ w', w.grownBy w' v.ownBlock → ∀ x y : β, Calls Try.prog g (#[.agg (enc x).toArray, .agg (enc y).toArray] ++ cb) w' fun e w'' => e = .returned (.int .i64 (cf x y)) ∧ ∃ q os', w'' = grow (w'.drewN q) os') :
    Calls Try.prog 52 #[v, .func (.func g) #[] cb] w fun e w' => e = .returned (.tuple #[]) ∧
      ∃ l' : List β, StableOf (ltOf cf) l l' ∧ w'.ownsRow base 78 k v l.length (l'.flatMap enc) ∧ w.grownBy w' v.ownBlock := by
  by_cases h0 : l.length = 0
  · rw [h0] at h
    obtain ⟨p, c, rfl⟩ := own_empty h
    refine (sortStable_none p c _ w).mono ?_
    rintro e w' ⟨rfl, rfl⟩
    have : l = [] := List.eq_nil_of_length_eq_zero h0
    subst this
    exact ⟨rfl, [], ⟨[], List.Perm.refl _, List.Pairwise.nil, rfl⟩, h, ⟨rfl, rfl, rfl, Nat.le_refl _, fun _ _ _ => rfl⟩⟩
  · obtain ⟨b, c, rfl, hge, hlt, hnc, hcm⟩ := own_block h (by omega)
    have hsz : l.zipIdx.toArray.size = l.length := by simp
    have hfl : ∀ z : List (β × Nat), z.flatMap (fun x => enc x.1) = (z.map Prod.fst).flatMap enc := fun z => by rw [List.flatMap_map]
    have hk' : ∀ x : β × Nat, (enc x.1).length = k := fun x => hk x.1
    have hH : HoldsK (fun x : β × Nat => enc x.1) k w b 0 l.zipIdx.toArray := own_holds id h (flatK (fun x : β × Nat => enc x.1) k l.zipIdx.toArray) (by rw [List.map_id, flatK_list (fun x : β × Nat => enc x.1) k hk', hfl]; simp [List.zipIdx_map_fst])
    have hO' : SWO (ltOf fun x y : β × Nat => cf x.1 y.1) := ⟨fun x => hO.irrefl x.1, fun x y z => hO.trans x.1 y.1 z.1, fun x y z => hO.ntrans x.1 y.1 z.1⟩
    have hcon := sortStable_any (P := Try.prog) (k := k) (Sntypes aE zE) Try.func82 Try.func81 Try.func78 Try.func71 Try.func52 Snlays (enters_of Try.func77 (by kernel_rfl) rfl)
      (fun x : β × Nat => enc x.1) (fun x y : β × Nat => cf x.1 y.1) hO' Prod.snd g cb b 0 c l.zipIdx.toArray w eg (fun m os dk hdk x y => by
        obtain ⟨_, o2⟩ := own_putRow id h (flatK (fun x : β × Nat => enc x.1) k dk) (by rw [size_flatK, hdk, hsz]) m os
        exact hcmp _ o2 x.1 y.1) ⟨hk', fun x => h1 x.1, hH, hlt⟩ (by rw [hsz]; omega) (by
        show (l.zipIdx).Pairwise fun x y => x.2 < y.2
        have : (l.zipIdx.map Prod.snd).Pairwise (· < ·) := by rw [List.zipIdx_map_snd]; exact List.pairwise_lt_range'
        exact List.pairwise_map.1 this)
    rw [hsz] at hcon
    refine hcon.mono ?_
    rintro e w' ⟨rfl, d', hd', hp, hs, n, os, rfl⟩
    obtain ⟨o1, o2⟩ := own_putRow id h (flatK (fun x : β × Nat => enc x.1) k d') (by rw [size_flatK, hd']) n os
    rw [List.map_id, flatK_list (fun x : β × Nat => enc x.1) k hk', hfl] at o1
    exact ⟨rfl, d'.toList.map Prod.fst, ⟨d'.toList, hp, hs, rfl⟩, o1, o2⟩
end Go.Proofs.Yteccpmmedpkddaa
