/-
  slices.Clone of accesses and of answers; NewLists.
-/
import Derived.Test.YthmockfeffikjaaJE23
/-! slices.Clone of accesses and of answers. -/
namespace Go.Proofs.Ythmockfeffikjaa
open Go.RowKit

theorem EAcc : Elem Try.prog 32 34 4 32 (.agg #[i64 0, i64 0, i64 0, i64 0]) := Elem.mk' Try.underlying32 (by kernel_rfl) rfl (by decide)
theorem acRow_one (l : List Ac) : ∀ u ∈ acRow l, u.oneCell' = true := by
  intro u hu
  obtain ⟨a, _, ha⟩ := List.mem_flatMap.1 hu
  simp [Ac.cells4] at ha
  rcases ha with rfl | rfl | rfl | rfl <;> rfl
theorem anRow_one (l : List (Int × Int)) : ∀ u ∈ anRow l, u.oneCell' = true := by
  intro u hu
  obtain ⟨a, _, ha⟩ := List.mem_flatMap.1 hu
  exact anCells_one a u ha
def CloneAcPost (l : List Ac) (w : World) (e : Ending) (w' : World) : Prop :=
  ∃ v, e = .returned v ∧ w'.ownsRow w.heap.size 34 4 v l.length (acRow l) ∧ Below w.heap.size w w'
set_option maxHeartbeats 1000000 in
theorem cloneAc_any (p : Option Addr) (c : Nat) (l : List Ac) (w : World) (hm : l.length ≤ 4398046511104) (hp : p = none → c = 0) (hrow : Row w p (acRow l)) :
    Calls Try.prog 30 #[.slice p l.length c] w (CloneAcPost l w) := by
  have hln := acRow_len l
  cases p with
  | none =>
    have hc := hp rfl
    subst hc
    have h0 : l = [] := by
      apply Classical.byContradiction
      intro hne
      have hpos : 0 < l.length := List.length_pos_iff.2 hne
      obtain ⟨b, o, e, _⟩ := hrow (by intro e; rw [e] at hln; simp at hln; omega)
      cases e
    subst h0
    have hnil := fun (w : World) => Lib.run_eql_slice_nil (P := Try.prog) w 32 34 none 0 0 0 0 Try.underlying32
    go_enter Try.func30, Try.ntmps30
    go_wp2
    go_ret
    exact ⟨_, rfl, World.ownsRow_nil _ _ _ _, Below.refl _ _⟩
  | some a =>
    have hnil := fun (w : World) (n c : Nat) => Lib.run_eql_slice_nil (P := Try.prog) w 32 34 (some a) n c 0 0 Try.underlying32
    go_enter Try.func30, Try.ntmps30
    go_wp2_with ((with_reducible show wpList _ _ _ (⟨some 7, _, _, _, _, _⟩ :: _) _ _); go_loud (refine wpList_app EAcc rfl _ _ rfl w.heap.size _ 0 [] rfl (own_new w [] 34 w.heap.size 0 4 (Nat.le_refl _) rfl (by decide)) _ _ _ (acRow l) rfl (by omega) hp (hrow.alloc _) (acRow_one l) (by unfold maxLen; omega) (by omega) (by simp) ?_); intro v2 w2 ho2 hg2 hs2; rw [Nat.zero_add, List.nil_append] at ho2)
    have hg2 : (w.alloc (.cells #[] 34)).grownBy w2 (some w.heap.size) := hg2
    go_ret
    exact ⟨v2, rfl, ho2, ((Below.refl _ _).alloc (Nat.le_refl _) _).grown hg2 (by simp) (by rintro k e; cases e; exact Nat.le_refl _)⟩
def CloneAnPost (l : List (Int × Int)) (w : World) (e : Ending) (w' : World) : Prop :=
  ∃ v, e = .returned v ∧ w'.ownsRow w.heap.size 86 2 v l.length (anRow l) ∧ Below w.heap.size w w'
set_option maxHeartbeats 1000000 in
theorem cloneAn_any (p : Option Addr) (c : Nat) (l : List (Int × Int)) (w : World) (hm : l.length ≤ 4398046511104) (hp : p = none → c = 0) (hrow : Row w p (anRow l)) :
    Calls Try.prog 39 #[.slice p l.length c] w (CloneAnPost l w) := by
  have hln := anRow_len l
  cases p with
  | none =>
    have hc := hp rfl
    subst hc
    have h0 : l = [] := by
      apply Classical.byContradiction
      intro hne
      have hpos : 0 < l.length := List.length_pos_iff.2 hne
      obtain ⟨b, o, e, _⟩ := hrow (by intro e; rw [e] at hln; simp at hln; omega)
      cases e
    subst h0
    have hnil := fun (w : World) => Lib.run_eql_slice_nil (P := Try.prog) w 52 86 none 0 0 0 0 Try.underlying52
    go_enter Try.func39, Try.ntmps39
    go_wp2
    go_ret
    exact ⟨_, rfl, World.ownsRow_nil _ _ _ _, Below.refl _ _⟩
  | some a =>
    have hnil := fun (w : World) (n c : Nat) => Lib.run_eql_slice_nil (P := Try.prog) w 52 86 (some a) n c 0 0 Try.underlying52
    go_enter Try.func39, Try.ntmps39
    go_wp2_with ((with_reducible show wpList _ _ _ (⟨some 7, _, _, _, _, _⟩ :: _) _ _); go_loud (refine wpList_app EAns rfl _ _ rfl w.heap.size _ 0 [] rfl (own_new w [] 86 w.heap.size 0 2 (Nat.le_refl _) rfl (by decide)) _ _ _ (anRow l) rfl (by omega) hp (hrow.alloc _) (anRow_one l) (by unfold maxLen; omega) (by omega) (by simp) ?_); intro v2 w2 ho2 hg2 hs2; rw [Nat.zero_add, List.nil_append] at ho2)
    have hg2 : (w.alloc (.cells #[] 86)).grownBy w2 (some w.heap.size) := hg2
    go_ret
    exact ⟨v2, rfl, ho2, ((Below.refl _ _).alloc (Nat.le_refl _) _).grown hg2 (by simp) (by rintro k e; cases e; exact Nat.le_refl _)⟩
end Go.Proofs.Ythmockfeffikjaa
/-! NewLists. -/
namespace Go.Proofs.Ythmockfeffikjaa
open Go.RowKit
variable {W w Wx wr w2 w3 w4 : World} {X : Nat} {dv av wv v' : Value} {work : List (List Ac)} {k : Nat} {ws : List (Option Addr × Nat)}

theorem EAnsL : Elem Try.prog 61 52 1 24 (.slice none 0 0) := Elem.mk' Try.underlying61 (by kernel_rfl) rfl (by decide)
theorem EAccL : Elem Try.prog 26 32 1 24 (.slice none 0 0) := Elem.mk' Try.underlying26 (by kernel_rfl) rfl (by decide)
/-- The copies of the first k lists. -/
structure NLP (Wx : World) (X : Nat) (dv av : Value) (work : List (List Ac)) (k : Nat) (wr : World) (wv : Value) (ws : List (Option Addr × Nat)) : Prop where
  head : wr.heap[X]? = some (.cells #[dv, wv, av] 67 (0, 0))
  own : wr.ownsRow Wx.heap.size 32 1 wv k (wkCells ws (work.take k))
  len : ws.length = k
  each : ∀ i (h1 : i < ws.length) (h2 : i < work.length), AcAt wr ws[i] work[i]
  blk : ∀ i (h1 : i < ws.length), ∀ q, ws[i].1 = some q → Wx.heap.size ≤ q.block ∧ q.block < wr.heap.size ∧ wv.ownBlock ≠ some q.block
  turn : Turn (fun j => j = X) Wx wr
theorem NLP.push (hk : k < work.length) (H : NLP Wx X dv av work k wr wv ws) (hX : X < Wx.heap.size) (hB : Below wr.heap.size wr w2) {q : Option Addr} {c : Nat} (hq : AcAt w2 (q, c) work[k]) (hqb : ∀ a, q = some a → wr.heap.size ≤ a.block ∧ a.block < w2.heap.size)
    (hown : w3.ownsRow Wx.heap.size 32 1 v' (k + 1) (wkCells ws (work.take k) ++ [.slice q work[k].length c])) (hg : w2.grownBy w3 wv.ownBlock) (hst : Stayed w2 wv v')
    (h4d : w4.heap[X]? = some (.cells #[dv, v', av] 67 (0, 0))) (h4 : ∀ j, j ≠ X → w4.heap[j]? = w3.heap[j]?) (h4s : w4.heap.size = w3.heap.size) (h4o : w4.os = w3.os ∧ w4.tape = w3.tape ∧ w4.output = w3.output) :
    NLP Wx X dv av work (k + 1) w4 v' (ws ++ [(q, c)]) := by
  have hs1 := H.turn.size
  have hs2 := hB.size
  have hs3 := hg.size
  have hwb := own_ge H.own
  have hwl := own_lt H.own
  have hvb := own_ge hown
  have near : ∀ j, j < w2.heap.size → j ≠ X → wv.ownBlock ≠ some j → w4.heap[j]? = w2.heap[j]? := fun j hj hjd hjv => (h4 j hjd).trans (hg.block j hj (fun e => hjv e.symm))
  refine ⟨h4d, ?_, by simp [H.len], fun i h1 h2 => ?_, fun i h1 a e => ?_, ⟨?_, ?_, ?_, by omega, fun j hj hn => ?_⟩⟩
  · rw [take_succ work k hk, wkCells_snoc ws (work.take k) (q, c) work[k] (by rw [H.len]; simp; omega)]
    exact own_blk hown (fun g hg' => h4 g (by have := hvb g hg'; omega))
  · by_cases hi : i < ws.length
    · rw [List.getElem_append_left hi]
      obtain ⟨a1, a2, a3, a4⟩ := H.each i hi h2
      refine ⟨a1, a2, a3, row_blk a4 (fun _ a e => ?_)⟩
      have hb := H.blk i hi a e
      exact (near _ (by omega) (by omega) hb.2.2).trans (hB.block _ hb.2.1)
    · have hik : i = k := by have := H.len; simp at h1; omega
      subst hik
      rw [List.getElem_append_right (by have := H.len; omega)]
      simp only [H.len, Nat.sub_self, List.getElem_cons_zero]
      obtain ⟨a1, a2, a3, a4⟩ := hq
      refine ⟨a1, a2, a3, row_blk a4 (fun _ a e => ?_)⟩
      have hb := hqb a e
      exact near _ (by omega) (by omega) (fun e2 => by have := hwl _ e2; omega)
  · by_cases hi : i < ws.length
    · rw [List.getElem_append_left hi] at e
      have hb := H.blk i hi a e
      refine ⟨hb.1, by omega, fun e2 => ?_⟩
      rcases hst _ e2 with h | h
      · exact hb.2.2 h
      · omega
    · have hik : i = ws.length := by simp at h1; omega
      subst hik
      rw [List.getElem_append_right (Nat.le_refl _)] at e
      simp only [Nat.sub_self, List.getElem_cons_zero] at e
      have hb := hqb a e
      refine ⟨by omega, by omega, fun e2 => ?_⟩
      rcases hst _ e2 with h | h
      · have := hwl _ h; omega
      · omega
  · rw [h4o.1, hg.os, hB.os, H.turn.os]
  · rw [h4o.2.1, hg.tape, hB.tape, H.turn.tape]
  · rw [h4o.2.2, hg.output, hB.output, H.turn.output]
  · have hn : j ≠ X := hn
    exact (near j (by omega) hn (fun e2 => by have := hwb _ e2; omega)).trans ((hB.block j (by omega)).trans (H.turn.block j hj hn))
def nlE (cs : List Ce) (work : List (List Ac)) : Int := if newE cs ≠ 0 then newE cs else if work.length < 1 ∨ 64 < work.length then 1 else 0
def nl0 (cs : List Ce) (work : List (List Ac)) : SL := ⟨⟨cs, 0⟩, work, List.replicate work.length []⟩
def NLTell (w : World) (cs : List Ce) (work : List (List Ac)) (e : Ending) (w' : World) : Prop :=
  (nlE cs work = 0 ∧ ∃ L fc fw, e = .returned (.tuple #[.pointer (some ⟨L, 0, none⟩), i64 0]) ∧ LM w' w.heap.size L (nl0 cs work) fc fw ∧ (∀ k, fc k ∨ fw k → w.heap.size ≤ k) ∧ Below w.heap.size w w') ∨
  (nlE cs work ≠ 0 ∧ e = .returned (.tuple #[.pointer none, i64 (nlE cs work)]) ∧ Below w.heap.size w w')
/-- The machine, made. -/
theorem nl_done {base d g : Nat} {cs : List Ce} {fp : Nat → Prop} (H : NLP Wx X (.pointer (some ⟨d, 0, none⟩)) (.slice (some ⟨g, 0, none⟩) work.length work.length) work work.length wr wv ws) (hX : X < Wx.heap.size)
    (hm : MMach Wx base d hdM ⟨cs, 0⟩ fp) (hfX : ∀ j, fp j → j ≠ X ∧ j ≠ g) (hgX : g ≠ X) (hown : Wx.ownsRow base 52 1 (.slice (some ⟨g, 0, none⟩) work.length work.length) work.length (List.replicate work.length (Value.slice none 0 0))) (hlen : cs.length ≤ 4096) (hw : 1 ≤ work.length ∧ work.length ≤ 64) (hl : ∀ l ∈ work, l.length ≤ 4398046511104) (hbs : base ≤ X) :
    ∃ fc fw, LM wr base X (nl0 cs work) fc fw ∧ ∀ j, fc j ∨ fw j → (fp j ∨ j = g) ∨ (j = X ∨ Wx.heap.size ≤ j) := by
  have hs := H.turn.size
  have hgl := own_lt hown g rfl
  have hXl := (Array.getElem?_eq_some_iff.1 H.head).1
  obtain ⟨wp, wc, rfl, hnc, hcm, hrow⟩ := own_row H.own
  rw [List.take_length] at hrow
  have hml : ∀ j, fp j → j < Wx.heap.size := by obtain ⟨v, ys, h⟩ := hm; exact h.lt
  have hm' : MMach wr base d hdM ⟨cs, 0⟩ fp := hm.kept (fun j hj => H.turn.block j (hml j hj) (hfX j hj).1) hs
  have ho : wr.ownsRow base 52 1 (.slice (some ⟨g, 0, none⟩) work.length work.length) work.length (List.replicate work.length (Value.slice none 0 0)) := own_blk hown (fun b e => by
    have e : b = g := by injection e with e; exact e.symm
    subst e; exact H.turn.block b hgl hgX)
  refine ⟨fun j => fp j ∨ j = g, fun j => j = X ∨ (Wx.heap.size ≤ j ∧ j < wr.heap.size), ⟨fp, fun j => j = g, d, wp, wc, ws, some ⟨g, 0, none⟩, work.length, List.replicate work.length (Value.slice none 0 0), ⟨?_, hm', ⟨hrow.1, ⟨hnc, hcm⟩, H.len, H.each, fun _ q e => ?_, fun i h1 h2 _ q e => ?_⟩, ⟨?_, fun i h1 h2 => ?_, fun b e => ?_, fun i h1 b e => ?_, fun i j h1 h2 _ b e => ?_, fun b e => ?_⟩, .inl rfl, fun j hj => ?_, fun j hj e => (hfX j hj).2 e, fun j hj h => ?_, fun j hj h => ?_, ?_, fun i h1 h2 => ?_, hw.2, hlen, hl, by omega⟩, fun _ => Iff.rfl⟩, fun j hj => ?_⟩
  · show wr.heap[X]? = some (.cells #[_, _, .slice _ (List.replicate work.length []).length _] _ _)
    rw [List.length_replicate]
    exact H.head
  · exact .inr (by have h1 := own_ge H.own q.block (by rw [e]; rfl); have h2 := own_lt H.own q.block (by rw [e]; rfl); exact ⟨h1, h2⟩)
  · have := H.blk i h1 q e; exact .inr ⟨this.1, this.2.1⟩
  · show World.ownsRow _ _ _ _ (.slice _ (List.replicate work.length []).length _) (List.replicate work.length []).length _
    rw [List.length_replicate]
    exact ho
  · simp only [nl0, List.getElem_replicate]
    exact World.ownsRow_nil _ _ _ _
  · injection e with e; exact e.symm
  · rw [List.getElem_replicate] at e; cases e
  · rw [List.getElem_replicate] at e; cases e
  · have e : b = g := e; omega
  · rcases hj with h | h
    · omega
    · exact h.2
  · rcases h with h | h
    · exact (hfX j hj).1 h
    · have := hml j hj; omega
  · have hj : j = g := hj
    rcases h with h | h
    · omega
    · omega
  · simp [nl0]
  · simp [nl0]
  · rcases hj with (h | h) | (h | h)
    · exact .inl (.inl h)
    · exact .inl (.inr h)
    · exact .inr (.inl h)
    · exact .inr (.inr h.1)

theorem row_kept0 {p : Option Addr} {xs : List Value} (h : Row w p xs) (hb : Below w.heap.size w W) : Row W p xs := h.below hb
theorem AcAt.below {q : Option Addr × Nat} {l : List Ac} (h : AcAt w q l) (hb : Below w.heap.size w W) : AcAt W q l := ⟨h.1, h.2.1, h.2.2.1, h.2.2.2.below hb⟩
theorem own_acat {base : Nat} {q : Option Addr} {c : Nat} {l : List Ac} (h : w.ownsRow base 34 4 (.slice q l.length c) l.length (acRow l)) : AcAt w (q, c) l := by
  obtain ⟨p, c', e, h1, h2, h3, _⟩ := own_row h
  cases e
  have hn : q = none → c = 0 := by
    intro e
    subst e
    rcases h.2 with ⟨hv, _⟩ | ⟨g, cap, cur, hv, _⟩
    · injection hv
    · cases hv
  exact ⟨h1, h2, hn, h3⟩
theorem NLP.below {base : Nat} (H : NLP Wx X dv av work k wr wv ws) (hb : Below base w Wx) (hX : base ≤ X) (hs : base ≤ w.heap.size) : Below base w wr :=
  ⟨H.turn.os.trans hb.os, H.turn.tape.trans hb.tape, H.turn.output.trans hb.output, Nat.le_trans hb.size H.turn.size, fun j hj => (H.turn.block j (by have := hb.size; omega) (show ¬ j = X by omega)).trans (hb.block j hj)⟩
theorem nlp_start (h : Wx.heap[X]? = some (.cells #[dv, .slice none 0 0, av] 67 (0, 0))) : NLP Wx X dv av work 0 Wx (.slice none 0 0) [] :=
  ⟨h, World.ownsRow_nil _ _ _ _, rfl, fun i h1 => by simp at h1, fun i h1 => by simp at h1, ⟨rfl, rfl, rfl, Nat.le_refl _, fun _ _ _ => rfl⟩⟩
set_option maxRecDepth 100000 in
set_option maxHeartbeats 8000000 in
theorem newlists_any (p : Option Addr) (c : Nat) (zs : List CeR) (w : World) (hc : zs.length ≤ c) (hm : c ≤ maxLen) (hrow : Row w p (ceRow zs)) (hsl : ∀ z ∈ zs, SlAt w z.p z.c z.x.came) (hcm : ∀ z ∈ zs, z.x.came.length ≤ 17592186043904)
    (wp : Option Addr) (wc : Nat) (qs : List (Option Addr × Nat)) (work : List (List Ac)) (fw0 : Nat → Prop) (WI : WorkIs w wp wc qs work fw0) (hl : ∀ l ∈ work, l.length ≤ 4398046511104) :
    Calls Try.prog 10 #[.slice p zs.length c, .slice wp work.length wc] w (NLTell w (zs.map CeR.x) work) := by
  have HN := hid (new_any p c zs w hc hm hrow hsl hcm)
  have HWI := hid WI
  have HL := hid hl
  have hwm : work.length ≤ 9223372036854775807 := by have := WI.c; unfold maxLen at this; omega
  clear hrow hsl hcm WI hl hc hm
  obtain ⟨cs, hcs⟩ : ∃ cs, cs = zs.map CeR.x := ⟨_, rfl⟩
  rw [← hcs] at HN ⊢
  clear hcs
  unfold NewTell at HN
  by_cases hE : newE cs = 0
  · by_cases hw : 1 ≤ work.length ∧ work.length ≤ 64
    · have HNE : Hid (nlE cs work = 0) := by unfold Hid nlE; rw [if_neg (by omega), if_neg (by omega)]
      have hlen : cs.length ≤ 4096 := by
        unfold newE at hE
        by_cases h : 4096 < cs.length
        · rw [if_pos h] at hE; cases hE
        · omega
      have HLEN := hid hlen
      have HEE := hid hE
      have HM0 := hid (made_one (.slice none 0 0) work.length rfl)
      clear hlen hE
      obtain ⟨hw1, hw2⟩ := hw
      have hw1I : ¬ ((work.length : Int) < 1) := by omega
      have hw2I : ¬ (64 < (work.length : Int)) := by omega
      go_enter Try.func10, Try.ntmps10
      go_wp2_with (first
        | (go_at_call 29; (with_reducible refine HN.out.mono ?_); rintro e w1 hnt; have hnt2 := hnt.resolve_right (fun h => h.1 HEE.out); obtain ⟨_, d, fp, rfl, hmm, hfp, hb1⟩ := hnt2; have HMM := hid hmm; have HFP := hid hfp; have HB1 := hid hb1; clear hnt hmm hfp hb1)
        | ((with_reducible show wpList _ _ _ (⟨some 30, _, _, _, _, _⟩ :: _) _ _); go_loud (refine wpList_mkfull EAnsL rfl _ _ rfl w1.heap.size .i64 .i64 _ _ work.length rfl rfl rfl rfl (by omega) (by unfold maxLen; omega) (Nat.le_refl _) ?_); intro w2 ho2 hg2; rw [HM0.out] at ho2; have HO2 := hid ho2; have HG2 := hid hg2; clear ho2 hg2))
      obtain ⟨Wx, hWx⟩ : ∃ Wx, Wx = w2.alloc (.cells #[.pointer (some ⟨d, 0, none⟩), .slice none 0 0, .slice (some ⟨w1.heap.size, 0, none⟩) work.length work.length] 67) := ⟨_, rfl⟩
      rw [← hWx]
      have hz1 := HB1.out.size
      have hz2 := HG2.out.size
      have hzx : Wx.heap.size = w2.heap.size + 1 := by rw [hWx]; simp
      have HH0 : Hid (Wx.heap[w2.heap.size]? = some (.cells #[.pointer (some ⟨d, 0, none⟩), .slice none 0 0, .slice (some ⟨w1.heap.size, 0, none⟩) work.length work.length] 67 (0, 0))) := by rw [hWx]; exact heap_alloc_new _ _
      have hb1x : Below w1.heap.size w1 Wx := by
        rw [hWx]
        exact ((Below.refl _ w1).grown HG2.out (Nat.le_refl _) (by simp)).alloc hz2 _
      have HBX : Hid (Below w.heap.size w Wx) := HB1.out.trans (hb1x.mono hz1)
      have HMX : Hid (MMach Wx w.heap.size d hdM ⟨cs, 0⟩ fp) := HMM.out.below hb1x
      have hml : ∀ j, fp j → j < w1.heap.size := by obtain ⟨v, ys, h⟩ := HMM.out; exact h.lt
      have HOX : Hid (Wx.ownsRow w.heap.size 52 1 (.slice (some ⟨w1.heap.size, 0, none⟩) work.length work.length) work.length (List.replicate work.length (Value.slice none 0 0))) := by
        have h := own_lower HO2.out hz1
        rw [hWx]
        exact own_below h ((Below.refl _ _).alloc (Nat.le_refl _) _)
      have hlt1 : w1.heap.size < w2.heap.size := own_lt HO2.out w1.heap.size rfl
      have HML := hid hml
      clear HMM HO2 HG2 HN HB1 hb1x hWx hml
      go_loopw [35] (fun i wr => ∃ (k : Nat) (wv : Value) (ws : List (Option Addr × Nat)), k ≤ work.length ∧ i = .int .i64 k ∧ NLP Wx w2.heap.size (.pointer (some ⟨d, 0, none⟩)) (.slice (some ⟨w1.heap.size, 0, none⟩) work.length work.length) work k wr wv ws) (fun i _ => work.length - (intOf i).toNat)
      case atStart => exact ⟨0, .slice none 0 0, [], Nat.zero_le _, rfl, nlp_start HH0.out⟩
      case round =>
        clear HH0
        obtain ⟨k, wv, ws, hk, rfl, hnl⟩ := hrel
        have HNL := hid hnl
        have hbr : Below w.heap.size w wr := hnl.below HBX.out (by omega) (Nat.le_refl _)
        have hXr : w2.heap.size < wr.heap.size := by have := hnl.turn.size; omega
        by_cases hlt : k < work.length
        · have hltI : (k : Int) < work.length := by omega
          have hqk : k < qs.length := by have := HWI.out.len; omega
          have hwl := wkCells_len qs work HWI.out.len
          obtain ⟨b, o, rfl, hbz, hcc⟩ := HWI.out.row.at (by omega)
          have hcell := (hbr.cell (World.block_lt_of_cell? w _ (hcc k (by omega)))).trans (hcc k (by omega))
          have hgk := wkCells_get qs work k hqk hlt
          rw [List.getElem?_eq_getElem (by omega)] at hgk
          injection hgk with hgk
          rw [hgk] at hcell
          obtain ⟨a1, a2, a3, a4⟩ := HWI.out.each k hqk hlt
          have hlk := HL.out _ (List.getElem_mem hlt)
          obtain ⟨l, hl⟩ : ∃ l, l = work[k] := ⟨_, rfl⟩
          rw [← hl] at hcell a1 a4 hlk
          have HLK := hid hl
          obtain ⟨⟨q0, c0⟩, hq0⟩ : ∃ q, q = qs[k] := ⟨_, rfl⟩
          rw [← hq0] at hcell a1 a2 a3 a4
          dsimp only at hcell a1 a2 a3 a4
          have HCP := hid (fun w' (hb : Below w.heap.size w w') => cloneAc_any q0 c0 l w' hlk a3 (a4.below hb))
          have HBR := hid hbr
          have HD0 := hid hnl.head
          have d0 : wr.cell? ⟨w2.heap.size, 1, none⟩ = some wv := cell_of_row _ _ 1 _ _ _ hnl.head
          clear hl hq0 hgk hcc hnl hbr a1 a2 a3 a4
          unfold CloneAcPost at HCP
          go_upto_region 10 with (fail)
          go_region_law (first
            | (go_loud (refine step_app EAccL rfl (.tmp 43) (.tmp 46) rfl Wx.heap.size wv k (wkCells ws (work.take k)) rfl ((HOWN3.out).alloc _) ⟨_, 0, none⟩ 1 1 [.slice p3 l.length c3] rfl rfl (row_newAt _ _ _ _ (by simp)) (by intro u hu; simp at hu; subst hu; rfl) (by unfold maxLen; omega) (by omega) (by simp; omega) ?_); intro v4 w4 ho4 hg4 hs4; obtain ⟨vp4, vc4, rfl, _⟩ := own_row ho4; have HD4 : Hid (w4.heap[w2.heap.size]? = some (.cells #[.pointer (some ⟨d, 0, none⟩), wv, .slice (some ⟨w1.heap.size, 0, none⟩) work.length work.length] 67 (0, 0))) := (hg4.block _ (by simp; omega) (fun e => by have := own_ge HNL.out.own w2.heap.size e.symm; omega)).trans ((Below.heap_alloc _ _ _ (by omega)).trans HD3.out); have d4 : w4.cell? ⟨w2.heap.size, 1, none⟩ = some wv := cell_of_row _ _ 1 _ _ _ HD4.out; have f4 : w4.frozen? ⟨w2.heap.size, 1, none⟩ = false := frozen_of_row _ _ _ _ _ HD4.out; have HO4 := hid ho4; have HG4 := hid hg4; have HS4 := hid hs4; clear ho4 hg4 hs4)
            | (go_simp; go_at_call 30; (with_reducible refine (HCP.out _ (by first | exact HBR.out | exact HBR.out.drew)).mono ?_); rintro e w3 ⟨v3, rfl, ho3, hb3⟩; obtain ⟨p3, c3, rfl, _⟩ := own_shape ho3; have HO3 := hid ho3; have hb3' : Below wr.heap.size wr w3 := ⟨hb3.os, hb3.tape, hb3.output, hb3.size, hb3.block⟩; have HB3 := hid hb3'; have HOWN3 : Hid (w3.ownsRow Wx.heap.size 32 1 wv k (wkCells ws (work.take k))) := own_below HNL.out.own hb3'; have hz3 : wr.heap.size ≤ w3.heap.size := hb3'.size; have HD3 : Hid (w3.heap[w2.heap.size]? = some (.cells #[.pointer (some ⟨d, 0, none⟩), wv, .slice (some ⟨w1.heap.size, 0, none⟩) work.length work.length] 67 (0, 0))) := (hb3'.block _ hXr).trans HD0.out; have hzw3 : w2.heap.size < w3.heap.size := (by omega); have d3 : w3.cell? ⟨w2.heap.size, 1, none⟩ = some wv := cell_of_row _ _ 1 _ _ _ HD3.out; have HZX : Hid (Wx.heap.size ≤ w3.heap.size) := (by have := HNL.out.turn.size; show Wx.heap.size ≤ w3.heap.size; omega); have hzx3 := HZX.out; clear ho3 hb3 hb3'))
          all_goals
            go_wp2_with fail
            go_roundw
            case rel =>
              refine ⟨k + 1, .slice vp4 (k + 1) vc4, ws ++ [(p3, c3)], by omega, by go_num, NLP.push hlt HNL.out (by omega) (w2 := w3.alloc (.cells #[.slice p3 l.length c3] 32)) (HB3.out.alloc HB3.out.size _) (by rw [← HLK.out]; exact (own_acat HO3.out).below ((Below.refl _ _).alloc (Nat.le_refl _) _)) (fun q hq => ?_) (by rw [← HLK.out]; exact HO4.out) HG4.out HS4.out (heap_setCell_same w4 w2.heap.size 1 _ _ _ HD4.out) (fun j hj => Below.heap_setCell _ _ _ _ hj) (by simp) ⟨(grown_set w4 _ _ _).os, (grown_set w4 _ _ _).tape, (grown_set w4 _ _ _).output⟩⟩
              have h1 : wr.heap.size ≤ q.block := own_ge HO3.out q.block (by subst hq; rfl)
              have h2 := own_lt HO3.out q.block (by subst hq; rfl)
              exact ⟨h1, by simp; omega⟩
            case measure => simp [intOf]; omega
        · have hkl : k = work.length := by omega
          go_wp2_with fail
          have HNL2 := HNL.out
          rw [hkl] at HNL2
          obtain ⟨fc, fw, hlm, hff⟩ := nl_done HNL2 (by omega) HMX.out (fun j hj => by have := HML.out j hj; omega) (by omega) HOX.out HLEN.out ⟨hw1, hw2⟩ HL.out (by omega)
          go_ret2
          refine .inl ⟨HNE.out, w2.heap.size, fc, fw, rfl, hlm, fun j hj => ?_, hbr⟩
          rcases hff j hj with (h | h) | (h | h)
          · exact HFP.out j h
          · omega
          · omega
          · omega
    · have HNE : Hid (nlE cs work = 1) := by unfold Hid nlE; rw [if_neg (by omega), if_pos (by omega)]
      have HEE := hid hE
      clear hE
      have fin : ∀ {e : Ending} {w' : World}, e = .returned (.tuple #[.pointer none, i64 1]) → Below w.heap.size w w' → NLTell w cs work e w' := fun h1 h2 => .inr ⟨by rw [HNE.out]; decide, by rw [HNE.out]; exact h1, h2⟩
      by_cases hw1 : work.length < 1
      · have hw1I : (work.length : Int) < 1 := by omega
        go_enter Try.func10, Try.ntmps10
        go_wp2_with (go_at_call 29; (with_reducible refine HN.out.mono ?_); rintro e w1 hnt; have hnt2 := hnt.resolve_right (fun h => h.1 HEE.out); obtain ⟨_, d, fp, rfl, hmm, hfp, hb1⟩ := hnt2; have HB1 := hid hb1; clear hnt hmm hfp hb1)
        go_ret2
        exact fin rfl HB1.out
      · have hw1I : ¬ ((work.length : Int) < 1) := by omega
        have hw2I : 64 < (work.length : Int) := by omega
        go_enter Try.func10, Try.ntmps10
        go_wp2_with (go_at_call 29; (with_reducible refine HN.out.mono ?_); rintro e w1 hnt; have hnt2 := hnt.resolve_right (fun h => h.1 HEE.out); obtain ⟨_, d, fp, rfl, hmm, hfp, hb1⟩ := hnt2; have HB1 := hid hb1; clear hnt hmm hfp hb1)
        go_ret2
        exact fin rfl HB1.out
  · have HNE : Hid (nlE cs work = newE cs) := by unfold Hid nlE; rw [if_pos hE]
    have hE2 : ¬ newE cs = 0 := hE
    have HE2 := hid hE2
    generalize newE cs = ne at *
    go_enter Try.func10, Try.ntmps10
    go_wp2_with (go_at_call 29; (with_reducible refine HN.out.mono ?_); rintro e w1 hnt; have hnt2 := hnt.resolve_left (fun h => HE2.out h.1); obtain ⟨_, rfl, hb1⟩ := hnt2; have HB1 := hid hb1; clear hnt hb1)
    go_ret2
    exact .inr ⟨by rw [HNE.out]; exact HE2.out, by rw [HNE.out]; rfl, HB1.out⟩
end Go.Proofs.Ythmockfeffikjaa
