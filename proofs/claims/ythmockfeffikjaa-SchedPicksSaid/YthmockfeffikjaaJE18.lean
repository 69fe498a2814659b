/-
  Step of a machine of lists.
-/
import Derived.Test.YthmockfeffikjaaJE17
import Derived.Test.YthmockfeffikjaaJE13
namespace Go.Proofs.Ythmockfeffikjaa
open Go.RowKit
variable {W W' : World} {base L dm : Nat} {S : SL} {fm fa fw fc : Nat → Prop}

theorem EAns : Elem Try.prog 52 86 2 16 (.agg #[i64 0, i64 0]) := Elem.mk' Try.underlying52 (by kernel_rfl) rfl (by decide)
def LStep (W : World) (base L : Nat) (S' : SL) (fc fw : Nat → Prop) (e : Ending) (w' : World) : Prop :=
  e = .returned (.tuple #[]) ∧ ∃ fc', LM w' base L S' fc' fw ∧ (∀ k, fc' k → fc k ∨ W.heap.size ≤ k) ∧ Turn fc W w' ∧ Below base W w'
theorem LStep.same (H : LM W base L S fc fw) (hb : Below W.heap.size W W') (hbs : base ≤ W.heap.size) : LStep W base L S fc fw (.returned (.tuple #[])) W' :=
  ⟨rfl, fc, H.below hb, fun _ h => .inl h, Turn.of_below hb, hb.mono hbs⟩

set_option maxRecDepth 100000 in
set_option maxHeartbeats 2000000 in
theorem lstep_none (H : LM W base L S fc fw) (n : Int) (hn : S.next n = none) : Calls Try.prog 24 #[.pointer (some ⟨L, 0, none⟩), i64 n] W (LStep W base L (S.stepN n) fc fw) := by
  have HN := hid (lnext_any H n)
  have HS : Hid (S.stepN n = S) := by unfold Hid SL.stepN; rw [hn]
  have hbs : Hid (base ≤ W.heap.size) := by obtain ⟨_, _, _, _, _, _, _, _, _, h, _⟩ := H; exact h.bs
  have HH := hid H
  rw [hn] at HN
  unfold NextTell Ac.val at HN
  dsimp only [Option.getD_none, Option.isSome_none, ac0] at HN
  clear hn H
  go_enter Try.func24, Try.ntmps24
  go_wp2_with (go_at_call 42; (with_reducible refine HN.out.mono ?_); rintro e w3 ⟨rfl, hb3⟩; have HB3 := hid hb3; clear hb3)
  refine bodyPost_ret (results_none rfl _ _ _) rfl ?_
  rw [HS.out]
  exact LStep.same HH.out (HB3.out.alloc HB3.out.size _) hbs.out

theorem Turn.after {W1 w5 : World} (hb : Below W.heap.size W W1) (ht : Turn fm W1 w5) : Turn fm W w5 :=
  ⟨ht.os.trans hb.os, ht.tape.trans hb.tape, ht.output.trans hb.output, Nat.le_trans hb.size ht.size, fun j hj hn => (ht.block j (Nat.lt_of_lt_of_le hj hb.size) hn).trans (hb.block j hj)⟩
theorem Turn.wider {W1 : World} (ht : Turn fm W W1) (h : ∀ k, fm k → fc k) : Turn fc W W1 := ⟨ht.os, ht.tape, ht.output, ht.size, fun j hj hn => ht.block j hj (fun hm => hn (h j hm))⟩
theorem anCells_one (x : Int × Int) : ∀ u ∈ anCells x, u.oneCell' = true := by
  intro u hu
  simp [anCells] at hu
  rcases hu with rfl | rfl <;> rfl
/-- A step that was told something. -/
theorem lstep_end {W1 w5 w2 w6 : World} {wp : Option Addr} {wc g ac : Nat} {ws : List (Option Addr × Nat)} {cs : List Value} {fm5 : Nat → Prop} {M : Mem}
    (h : LMIs W base L S fm fa fw dm wp wc ws (some ⟨g, 0, none⟩) ac cs) (hf : ∀ k, fc k ↔ fm k ∨ fa k) (hB1 : Below W.heap.size W W1) (hm5 : MMach w5 base dm hdM M fm5) (hf5 : ∀ k, fm5 k → fm k ∨ W1.heap.size ≤ k) (ht5 : Turn fm W1 w5) (hb5 : Below base W1 w5)
    (hM : M.cs.length = S.mem.cs.length) (k : Nat) (hkc : k < cs.length) (hk2 : k < S.said.length) (hk : k < S.work.length) (hle : S.said[k].length < S.work[k].length) (x : Int × Int) {q1 : Option Addr} {qc : Nat} {sl : List (Int × Int)} (hsl : S.said[k] = sl) (hck : cs[k] = .slice q1 sl.length qc)
    (hB : Below w5.heap.size w5 w2) {v' : Value} (hown : w6.ownsRow base 86 2 v' (sl.length + 1) (anRow sl ++ anCells x)) (hg : w2.grownBy w6 (Value.slice q1 sl.length qc).ownBlock) (hst : Stayed w2 (.slice q1 sl.length qc) v') :
    LStep W base L ⟨M, S.work, S.said.set k (sl ++ [x])⟩ fc fw (.returned (.tuple #[])) (w6.setCell ⟨g, k, none⟩ v') := by
  have hs1 := hB1.size
  have hs5 := ht5.size
  have hs2 := hB.size
  have hs6 := hg.size
  have hsf : (w6.setCell ⟨g, k, none⟩ v').heap.size = w6.heap.size := by simp
  have hm1 := h.mlt
  have ha1 := h.an.lt
  have hgf : fa g := h.an.fv g rfl
  have hgl := ha1 g hgf
  have hrow : ∀ b, (Value.slice q1 sl.length qc).ownBlock = some b → fa b := fun b e => (h.an.fc k hkc b (by rw [hck]; exact e)).1
  have hA5 : AnsIs w5 base (.slice (some ⟨g, 0, none⟩) S.said.length ac) cs S.said fa := h.an.kept (fun j hj => (ht5.block j (by have := ha1 j hj; omega) (fun hm => h.ma j hm hj)).trans (hB1.block j (ha1 j hj))) (by omega)
  have hA7 := hA5.say k hkc hk2 x hB (by rw [hsl]; exact hown) (by rw [hck]; exact hg) (by rw [hck]; exact hst) rfl
  rw [hsl] at hA7
  have hdis : ∀ j, fm5 j → ¬ fa j ∧ ¬ fw j := fun j hj => by
    rcases hf5 j hj with h1 | h1
    · exact ⟨h.ma j h1, h.mw j h1⟩
    · exact ⟨fun h2 => by have := ha1 j h2; omega, fun h2 => by have := h.lt j h2; omega⟩
  have near : ∀ j, j < w5.heap.size → ¬ fa j → (w6.setCell ⟨g, k, none⟩ v').heap[j]? = w5.heap[j]? := fun j hj hn =>
    (Below.heap_setCell _ _ _ _ (fun e => hn (by rw [e]; exact hgf))).trans ((hg.block j (by omega) (fun e => hn (hrow j e.symm))).trans (hB.block j hj))
  have far : ∀ j, j < W.heap.size → ¬ fm j → w5.heap[j]? = W.heap[j]? := fun j hj hn => (ht5.block j (by omega) hn).trans (hB1.block j hj)
  have hm5l : ∀ j, fm5 j → j < w5.heap.size := by obtain ⟨v, ys, hh⟩ := hm5; exact hh.lt
  have hos : (w6.setCell ⟨g, k, none⟩ v').os = W.os ∧ (w6.setCell ⟨g, k, none⟩ v').tape = W.tape ∧ (w6.setCell ⟨g, k, none⟩ v').output = W.output := by
    have h7 := grown_set w6 g k v'
    exact ⟨by rw [h7.os, hg.os, hB.os, ht5.os, hB1.os], by rw [h7.tape, hg.tape, hB.tape, ht5.tape, hB1.tape], by rw [h7.output, hg.output, hB.output, ht5.output, hB1.output]⟩
  refine ⟨rfl, fun j => fm5 j ∨ (fa j ∨ (w5.heap.size ≤ j ∧ j < (w6.setCell ⟨g, k, none⟩ v').heap.size)), ⟨fm5, _, dm, wp, wc, ws, some ⟨g, 0, none⟩, ac, cs.set k v', ⟨?_, ?_, ?_, ?_, h.hl, ?_, ?_, ?_, ?_, ?_, ?_, h.n1, by rw [hM]; exact h.n2, h.n3, ?_⟩, fun j => Iff.rfl⟩, ?_, ?_, ?_⟩
  · have hL := h.lt _ h.hl
    have := (near L (by omega) (fun h1 => h.aw L h1 h.hl)).trans ((far L hL (fun h1 => h.mw L h1 h.hl)).trans h.head)
    rw [this, List.length_set]
  · exact hm5.kept (fun j hj => near j (hm5l j hj) (hdis j hj).1) (by omega)
  · exact h.wk.kept (fun j hj => (near j (by have := h.lt j hj; omega) (fun h1 => h.aw j h1 hj)).trans (far j (h.lt j hj) (fun h1 => h.mw j h1 hj)))
  · show AnsIs _ base (.slice (some ⟨g, 0, none⟩) (S.said.set k (sl ++ [x])).length ac) _ _ _
    rw [List.length_set]
    exact hA7
  · intro j hj
    have := h.lt j hj
    omega
  · rintro j hj (h2 | h2)
    · exact (hdis j hj).1 h2
    · have := hm5l j hj; omega
  · exact fun j hj => (hdis j hj).2
  · rintro j (h2 | h2) hj
    · exact h.aw j h2 hj
    · have := h.lt j hj; omega
  · rw [List.length_set]; exact h.ln
  · intro i h1 h2
    rw [List.getElem_set]
    split
    · rename_i e
      subst e
      rw [List.length_append, List.length_singleton, ← hsl]; exact hle
    · exact h.le i (by rw [List.length_set] at h1; exact h1) h2
  · have := h.bs; omega
  · rintro j (h2 | h2 | h2)
    · rcases hf5 j h2 with h3 | h3
      · exact .inl ((hf j).2 (.inl h3))
      · exact .inr (by omega)
    · exact .inl ((hf j).2 (.inr h2))
    · exact .inr (by omega)
  · exact ⟨hos.1, hos.2.1, hos.2.2, by omega, fun j hj hn => (near j (by omega) (fun h1 => hn ((hf j).2 (.inr h1)))).trans (far j hj (fun h1 => hn ((hf j).2 (.inl h1))))⟩
  · refine ⟨hos.1, hos.2.1, hos.2.2, by omega, fun j hj => ?_⟩
    have hjW : j < W.heap.size := by have := h.bs; omega
    have hng : j ≠ g := fun e => by have := own_ge h.an.own g rfl; omega
    have hnr : (Value.slice q1 sl.length qc).ownBlock ≠ some j := fun e => by
      have := own_ge (h.an.each k hkc hk2) j (by rw [hck]; exact e); omega
    exact (Below.heap_setCell _ _ _ _ hng).trans ((hg.block j (by omega) (fun e => hnr e.symm)).trans ((hB.block j (by omega)).trans ((hb5.block j hj).trans (hB1.block j hjW))))
/-- What the loads of a step read. -/
structure SD (L q : Nat) (o : Obj) (a : Ac) (w : World) : Prop where
  h : w.heap[L]? = some o
  a : AcBlk w q a
theorem SD.drew {L q : Nat} {o : Obj} {a : Ac} {w : World} (h : SD L q o a w) : SD L q o a w.drew := ⟨h.h, h.a⟩

set_option maxRecDepth 100000 in
set_option maxHeartbeats 4000000 in
theorem lstep_some (H : LM W base L S fc fw) (k : Nat) (hk : k < S.work.length) (a : Ac) (hn : S.next k = some a) : Calls Try.prog 24 #[.pointer (some ⟨L, 0, none⟩), i64 k] W (LStep W base L (S.stepN k) fc fw) := by
  have HN := hid (lnext_any H k)
  obtain ⟨b, o, wc0, g, acx, p1, c1, q1, qc, hw⟩ := H.at k hk
  obtain ⟨fm, fa, dm, wp, wc, ws, ap, ac, cs, h, hf⟩ := H
  obtain ⟨c0, _, c2, hl⟩ := h.cells
  have hc2 := hw.h2
  rw [c2] at hc2
  injection hc2 with hc2
  injection hc2 with e1 _ e3
  subst e1 e3
  have hk2 : k < S.said.length := by rw [h.ln]; exact hk
  have hkc : k < cs.length := by rw [h.an.len]; exact hk2
  have hck : cs[k] = .slice q1 (S.said.getD k []).length qc := by
    have h1 := (own_cell h.an.own k hkc).1
    rw [hw.hs] at h1
    injection h1 with h1
    exact h1.symm
  have e2 : S.said.getD k [] = S.said[k] := by simp [List.getD_eq_getElem?_getD, hk2]
  have hsl : (S.said.getD k []).length < (S.work.getD k []).length := by
    unfold SL.next at hn
    rw [if_pos (by omega), Int.toNat_natCast] at hn
    exact (List.getElem?_eq_some_iff.1 hn).1
  have hwl := hw.bd.1
  have HST : Hid (S.stepN k = if (S.mem.tell k a).2 = 231 then S else ⟨S.mem.step k a, S.work, S.said.set k (S.said.getD k [] ++ [S.mem.tell k a])⟩) := by
    unfold Hid SL.stepN; rw [hn]; simp only [Int.toNat_natCast]
  rw [hn] at HN
  have HH := hid h
  have HDO := hid (fun w' (hb : Below W.heap.size W w') => do_any (h.mem.below hb) k a)
  have HSB := hid (fun (hE : (S.mem.tell k a).2 = 231) => (show S.mem.step k a = S.mem by
    unfold Mem.step
    rw [if_neg]
    intro h0
    unfold Mem.tell at hE
    rw [if_pos h0] at hE
    cases hE))
  have hLfm : ¬ fm L := fun h1 => h.mw L h1 h.hl
  have hLfa : ¬ fa L := fun h1 => h.aw L h1 h.hl
  have HLM := hid (And.intro hLfm hLfa)
  have HF := hid hf
  have HCK := hid hck
  have HE2 := hid e2
  have hkI : (k : Int) < S.said.length := by omega
  have hk0 : (0 : Int) ≤ (k : Int) := by omega
  have hslb : (S.said.getD k []).length ≤ 4398046511104 := by omega
  have hsml : S.said.length ≤ 64 := by have := h.n1; have := h.ln; omega
  obtain ⟨ak, acl, ao, an⟩ := a
  unfold NextTell DoTell at *
  unfold Ac.val at HN HDO
  dsimp only [Option.getD_some, Option.isSome_some] at HN HDO
  have HLE : Hid ((S.said.getD k []).length < S.work[k].length) := by
    have e4 : S.work.getD k [] = S.work[k] := by simp [List.getD_eq_getElem?_getD, hk]
    rw [e4] at hsl; exact hsl
  clear hn h hf hw hck e2 c0 c2 hLfm hLfa hsl hwl
  go_enter Try.func24, Try.ntmps24
  go_upto_region 2 with (go_at_call 42; (with_reducible refine HN.out.mono ?_); rintro e w3 ⟨rfl, hb3⟩; have HB3 := hid hb3; clear hb3)
  obtain ⟨W1, hW1⟩ : ∃ W1, W1 = w3.alloc (.cells #[i64 ak, i64 acl, i64 ao, i64 an] 34) := ⟨_, rfl⟩
  rw [← hW1]
  have hA : AcBlk W1 w3.heap.size ⟨ak, acl, ao, an⟩ := by rw [hW1]; exact acblk_new w3 ⟨ak, acl, ao, an⟩
  have hB1 : Below W.heap.size W W1 := by rw [hW1]; exact HB3.out.alloc HB3.out.size _
  have hz1 : w3.heap.size < W1.heap.size := by rw [hW1]; simp
  clear hW1
  have HB1 := hid hB1
  have hq3 : W.heap.size ≤ w3.heap.size := HB3.out.size
  have hS1 : SD L w3.heap.size (.cells #[.pointer (some ⟨dm, 0, none⟩), .slice wp S.work.length wc, .slice (some ⟨g, 0, none⟩) S.said.length ac] 67 (0, 0)) ⟨ak, acl, ao, an⟩ W1 := ⟨(hB1.block _ hl).trans HH.out.head, hA⟩
  have f0 : ∀ w', SD L w3.heap.size (.cells #[.pointer (some ⟨dm, 0, none⟩), .slice wp S.work.length wc, .slice (some ⟨g, 0, none⟩) S.said.length ac] 67 (0, 0)) ⟨ak, acl, ao, an⟩ w' → w'.cell? ⟨L, 0, none⟩ = some (.pointer (some ⟨dm, 0, none⟩)) := fun w' h => cell_of_row _ _ 0 _ _ _ h.h
  have f1 : ∀ w', SD L w3.heap.size (.cells #[.pointer (some ⟨dm, 0, none⟩), .slice wp S.work.length wc, .slice (some ⟨g, 0, none⟩) S.said.length ac] 67 (0, 0)) ⟨ak, acl, ao, an⟩ w' → w'.cell? ⟨w3.heap.size, 0, none⟩ = some (i64 ak) := fun w' h => h.a.facts.1.1
  have f2 : ∀ w', SD L w3.heap.size (.cells #[.pointer (some ⟨dm, 0, none⟩), .slice wp S.work.length wc, .slice (some ⟨g, 0, none⟩) S.said.length ac] 67 (0, 0)) ⟨ak, acl, ao, an⟩ w' → w'.cell? ⟨w3.heap.size, 1, none⟩ = some (i64 acl) := fun w' h => h.a.facts.1.2.1
  have f3 : ∀ w', SD L w3.heap.size (.cells #[.pointer (some ⟨dm, 0, none⟩), .slice wp S.work.length wc, .slice (some ⟨g, 0, none⟩) S.said.length ac] 67 (0, 0)) ⟨ak, acl, ao, an⟩ w' → w'.cell? ⟨w3.heap.size, 2, none⟩ = some (i64 ao) := fun w' h => h.a.facts.1.2.2.1
  have f4 : ∀ w', SD L w3.heap.size (.cells #[.pointer (some ⟨dm, 0, none⟩), .slice wp S.work.length wc, .slice (some ⟨g, 0, none⟩) S.said.length ac] 67 (0, 0)) ⟨ak, acl, ao, an⟩ w' → w'.cell? ⟨w3.heap.size, 3, none⟩ = some (i64 an) := fun w' h => h.a.facts.1.2.2.2
  have hS2 := hS1.drew
  have HS1 := hid hS1
  have HZ1 := hid (And.intro hz1 hq3)
  clear hA hB1 hz1 hq3
  go_region_held3 (fun w' => SD L w3.heap.size (.cells #[.pointer (some ⟨dm, 0, none⟩), .slice wp S.work.length wc, .slice (some ⟨g, 0, none⟩) S.said.length ac] 67 (0, 0)) ⟨ak, acl, ao, an⟩ w') (with_reducible assumption)
    (first | (go_at_call 43; (with_reducible refine (HDO.out _ HB1.out.drew).mono ?_); rintro e w5 ⟨rfl, fm5, hm5, hf5, ht5, hb5⟩; have hS5 : SD L w3.heap.size (.cells #[.pointer (some ⟨dm, 0, none⟩), .slice wp S.work.length wc, .slice (some ⟨g, 0, none⟩) S.said.length ac] 67 (0, 0)) ⟨ak, acl, ao, an⟩ w5 := ⟨(ht5.block _ (Array.getElem?_eq_some_iff.1 HS1.out.h).1 HLM.out.1).trans HS1.out.h, (ht5.block _ HZ1.out.1 (fun h => by have := HH.out.mlt _ h; have := HZ1.out.2; omega)).trans HS1.out.a⟩; have HM5 := hid hm5; have HF5 := hid hf5; have HT5 := hid ht5; have HB5 := hid hb5; clear hm5 hf5 ht5 hb5))
  have HS5 := hid hS5
  have c2 : w5.cell? ⟨L, 2, none⟩ = some (.slice (some ⟨g, 0, none⟩) S.said.length ac) := cell_of_row _ _ 2 _ _ _ hS5.h
  have HA5 : Hid (AnsIs w5 base (.slice (some ⟨g, 0, none⟩) S.said.length ac) cs S.said fa) := HH.out.an.kept (fun j hj => (HT5.out.block j (Nat.lt_of_lt_of_le (HH.out.an.lt j hj) HB1.out.size) (fun hm => HH.out.ma j hm hj)).trans (HB1.out.block j (HH.out.an.lt j hj))) (Nat.le_trans HB1.out.size HT5.out.size)
  have hfl5 : ∀ j, fw j → w5.heap[j]? = W.heap[j]? := fun j hj => (HT5.out.block j (Nat.lt_of_lt_of_le (HH.out.lt j hj) HB1.out.size) (fun hm => HH.out.mw j hm hj)).trans (HB1.out.block j (HH.out.lt j hj))
  have HFL5 := hid hfl5
  have hdis : ∀ j, fm5 j → ¬ fa j ∧ ¬ fw j := fun j hj => by
    rcases HF5.out j hj with h1 | h1
    · exact ⟨HH.out.ma j h1, HH.out.mw j h1⟩
    · have hz := HB1.out.size
      have h1' : W1.heap.size ≤ j := h1
      exact ⟨fun h2 => by have := HH.out.an.lt j h2; omega, fun h2 => by have := HH.out.lt j h2; omega⟩
  have HDIS := hid hdis
  have hz5 : W.heap.size ≤ w5.heap.size := Nat.le_trans HB1.out.size HT5.out.size
  have HZ5 := hid hz5
  clear hfl5 hdis hz5 f0 f1 f2 f3 f4 hS1 hS2 hS5
  by_cases hE : (S.mem.tell k ⟨ak, acl, ao, an⟩).2 = 231
  · have hne : ((S.mem.tell k ⟨ak, acl, ao, an⟩).2 != 231) = false := by simpa using hE
    have HE := hid hE
    clear hE
    go_wp2_with fail
    refine bodyPost_ret (results_none rfl _ _ _) rfl ?_
    rw [HST.out, if_pos HE.out]
    have hm := HM5.out
    rw [HSB.out HE.out] at hm
    refine ⟨rfl, fun j => fm5 j ∨ fa j, ⟨fm5, fa, dm, wp, wc, ws, _, ac, cs, ⟨HS5.out.h, hm, HH.out.wk.kept HFL5.out, HA5.out, HH.out.hl, fun j hj => Nat.lt_of_lt_of_le (HH.out.lt j hj) HZ5.out, fun j hj => (HDIS.out j hj).1, fun j hj => (HDIS.out j hj).2, HH.out.aw, HH.out.ln, HH.out.le, HH.out.n1, HH.out.n2, HH.out.n3, Nat.le_trans HH.out.bs HZ5.out⟩, fun j => Iff.rfl⟩, fun j hj => ?_, ?_, ?_⟩
    · rcases hj with h1 | h1
      · rcases HF5.out j h1 with h2 | h2
        · exact .inl ((HF.out j).2 (.inl h2))
        · exact .inr (Nat.le_trans HB1.out.size h2)
      · exact .inl ((HF.out j).2 (.inr h1))
    · exact (Turn.after HB1.out.drew HT5.out).wider (fun j hj => (HF.out j).2 (.inl hj))
    · exact (HB1.out.drew.mono HH.out.bs).trans HB5.out
  · have hne : ((S.mem.tell k ⟨ak, acl, ao, an⟩).2 != 231) = true := by simpa using hE
    have HE := hid hE
    clear hE
    have hcg : w5.cell? ⟨g, k, none⟩ = some (.slice q1 (S.said.getD k []).length qc) := by
      rw [(own_cell HA5.out.own k hkc).1, HCK.out]
    have hfg : w5.frozen? ⟨g, k, none⟩ = false := (own_cell HA5.out.own k hkc).2
    have HOWN : Hid (w5.ownsRow base 86 2 (.slice q1 (S.said.getD k []).length qc) (S.said.getD k []).length (anRow (S.said.getD k []))) := by
      have := HA5.out.each k hkc hk2
      rw [HCK.out, ← HE2.out] at this
      exact this
    have hgL : g ≠ L := fun e => HLM.out.2 (by rw [← e]; exact HH.out.an.fv g rfl)
    have hlg : g < w5.heap.size := HA5.out.lt g (HH.out.an.fv g rfl)
    have hlL : L < w5.heap.size := (Array.getElem?_eq_some_iff.1 HS5.out.h).1
    have hgq : some g ≠ (Value.slice q1 (S.said.getD k []).length qc).ownBlock := fun e => (HH.out.an.fc k hkc g (by rw [HCK.out]; exact e.symm)).2 rfl
    have hbz : base ≤ w5.heap.size := Nat.le_trans HH.out.bs HZ5.out
    generalize hV : (S.mem.tell k ⟨ak, acl, ao, an⟩) = VE at *
    obtain ⟨V, E⟩ := VE
    dsimp only at *
    generalize hsd : S.said.getD k [] = sl at *
    have hLq : some L ≠ (Value.slice q1 sl.length qc).ownBlock := fun e => HLM.out.2 ((HH.out.an.fc k hkc L (by rw [HCK.out, ← e])).1)
    have HGQ := hid hgq
    have HLQ := hid hLq
    have HSD := hid hsd
    have HV := hid hV
    clear hsd hV hgq hLq
    go_upto_region 4 with (fail)
    go_region_law (first
      | (go_loud (refine step_app EAns rfl (.tmp 39) (.tmp 43) rfl base (.slice q1 sl.length qc) sl.length (anRow sl) rfl (HOWN.out.alloc _) ⟨_, 0, none⟩ 1 1 (anCells (V, E)) rfl rfl (row_newAt _ _ _ _ (by simp)) (anCells_one _) (by unfold maxLen; omega) (by omega) (by simp; omega) ?_); intro v6 w6 ho6 hg6 hs6; obtain ⟨vp6, vc6, rfl, _⟩ := own_row ho6; have hG6 : w6.heap[g]? = w5.heap[g]? := (hg6.block g (by simp; omega) HGQ.out).trans (Below.heap_alloc _ _ _ hlg); have d6 : w6.cell? ⟨g, k, none⟩ = some (.slice q1 sl.length qc) := (World.cell?_of_block (a := ⟨g, k, none⟩) hG6).trans hcg; have f6 : w6.frozen? ⟨g, k, none⟩ = false := (World.frozen?_of_block (a := ⟨g, k, none⟩) hG6).trans hfg; have c6 : w6.cell? ⟨L, 2, none⟩ = some (.slice (some ⟨g, 0, none⟩) S.said.length ac) := (World.cell?_of_block (a := ⟨L, 2, none⟩) ((hg6.block L (by simp; omega) HLQ.out).trans (Below.heap_alloc _ _ _ hlL))).trans c2; have HO6 := hid ho6; have HG6 := hid hg6; have HS6 := hid hs6; clear ho6 hg6 hs6 hG6))
    all_goals
      go_end0
      rw [HST.out, if_neg HE.out]
      have hW : S.said[k] = sl := HE2.out.symm
      have hx := HV.out
      have hle : S.said[k].length < S.work[k].length := by rw [hW]; exact HLE.out
      first
        | exact lstep_end HH.out HF.out HB1.out HM5.out HF5.out ⟨HT5.out.os, HT5.out.tape, HT5.out.output, HT5.out.size, HT5.out.block⟩ ⟨HB5.out.os, HB5.out.tape, HB5.out.output, HB5.out.size, HB5.out.block⟩ (Mem.step_len _ _ _) k hkc hk2 hk hle (V, E) hW (by rw [HCK.out]) ((Below.refl _ _).alloc (Nat.le_refl _) _) HO6.out HG6.out HS6.out
        | exact lstep_end HH.out HF.out HB1.out HM5.out HF5.out ⟨HT5.out.os, HT5.out.tape, HT5.out.output, HT5.out.size, HT5.out.block⟩ ⟨HB5.out.os, HB5.out.tape, HB5.out.output, HB5.out.size, HB5.out.block⟩ (Mem.step_len _ _ _) k hkc hk2 hk hle (V, E) hW (by rw [HCK.out]) ((Below.refl _ _).alloc (Nat.le_refl _) _).drew HO6.out HG6.out HS6.out
theorem lstep_any (H : LM W base L S fc fw) (n : Int) : Calls Try.prog 24 #[.pointer (some ⟨L, 0, none⟩), i64 n] W (LStep W base L (S.stepN n) fc fw) := by
  cases hn : S.next n with
  | none => exact lstep_none H n hn
  | some a =>
    have h := hn
    unfold SL.next at h
    by_cases h2 : 0 ≤ n ∧ n < S.work.length
    · obtain ⟨k, rfl⟩ : ∃ k : Nat, n = k := ⟨n.toNat, by omega⟩
      exact lstep_some H k (by omega) a hn
    · rw [if_neg h2] at h; cases h
end Go.Proofs.Ythmockfeffikjaa
