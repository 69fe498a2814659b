/-
  Finished of the document's machine of lists; the same answers.
  New of the document's machine of lists.
  A setup's two machines.
  Who is skipped counts for nothing, in plain words.
  What the document's machine and the picks that were not skipped are, from pick to pick.
-/
import Derived.Test.YthmockfeffikjaaJK1
import Derived.Test.YthmockfeffikjaaJE24
import Derived.RegionTactic
import Derived.Test.YthmockfeffikjaaJS0
import Derived.Test.YthmockfeffikjaaJE25
namespace Go.Proofs.Ythmockfeffikjaa
open Go.RowKit
variable {W W' : World} {base R dm tb : Nat} {S : SL} {fm fs fw fc : Nat → Prop}

set_option maxRecDepth 100000 in
set_option maxHeartbeats 2000000 in
theorem same_true (l : List (Int × Int)) (p q : Option Addr) (c d : Nat) (w : World) (hm : l.length ≤ 9223372036854775807) (hp : Row w p (anRow l)) (hq : Row w q (anRow l)) :
    Calls Try.prog 17 #[.slice p l.length c, .slice q l.length d] w fun e w' => e = .returned (.bool true) ∧ Below w.heap.size w w' := by
  have HP := hid hp
  have HQ := hid hq
  clear hp hq
  go_enter Try.func17, Try.ntmps17
  go_wp2
  go_loopw [5] (fun i wr => ∃ k : Nat, k ≤ l.length ∧ i = .int .i64 k ∧ Below w.heap.size w wr) (fun i _ => l.length - (intOf i).toNat)
  case atStart => exact ⟨0, Nat.zero_le _, rfl, Below.refl _ _⟩
  case round =>
    obtain ⟨k, hk, rfl, hb⟩ := hrel
    have HB := hid hb
    by_cases hlt : k < l.length
    · have hltI : (k : Int) < l.length := by omega
      have hk0 : (0 : Int) ≤ (k : Int) := by omega
      obtain ⟨b1, o1, rfl, z1, _⟩ := HP.out.at (by rw [anRow_len]; omega)
      obtain ⟨b2, o2, rfl, z2, _⟩ := HQ.out.at (by rw [anRow_len]; omega)
      obtain ⟨x0, x1⟩ := an_cells HP.out k hlt
      obtain ⟨y0, y1⟩ := an_cells HQ.out k hlt
      have x0 := (hb.cell (p := ⟨b1, o1 + k * 2, none⟩) z1).trans x0
      have x1 := (hb.cell (p := ⟨b1, o1 + k * 2 + 1, none⟩) z1).trans x1
      have y0 := (hb.cell (p := ⟨b2, o2 + k * 2, none⟩) z2).trans y0
      have y1 := (hb.cell (p := ⟨b2, o2 + k * 2 + 1, none⟩) z2).trans y1
      generalize l[k] = a at *
      obtain ⟨an, ae⟩ := a
      dsimp only at *
      clear hb
      go_upto_region 6 with (fail)
      go_quiet (fail)
      go_wp2_with fail
      go_roundw
      case rel => exact ⟨k + 1, by omega, by go_num, below_drewN HB.out _⟩
      case measure => simp [intOf]; omega
    · have hltI : ¬ ((k : Int) < l.length) := by omega
      go_wp2_with fail
      go_ret
      exact ⟨rfl, hb⟩
set_option maxRecDepth 100000 in
set_option maxHeartbeats 2000000 in
theorem rlfin_any (H : RLM W base R S fc fw) : Calls Try.prog 22 #[.pointer (some ⟨R, 0, none⟩)] W fun e w' => e = .returned (.bool S.finN) ∧ Below W.heap.size W w' := by
  have HH := hid H
  have HDN := hid (fun (k : Nat) w' (hb : Below W.heap.size W w') => rdone_below (rdone_any (H.below hb) k))
  obtain ⟨hl, wp, wc, c1⟩ := H.r1
  have h64 : S.work.length ≤ 64 := by obtain ⟨_, _, _, _, _, _, _, _, _, _, h, _⟩ := H; exact h.n1
  clear H
  go_enter Try.func22, Try.ntmps22
  go_wp2
  go_loopw [3] (fun i wr => ∃ k : Nat, k ≤ S.work.length ∧ i = .int .i64 k ∧ (∀ j : Nat, j < k → S.doneN j = true) ∧ Below W.heap.size W wr) (fun i _ => S.work.length - (intOf i).toNat)
  case atStart => exact ⟨0, Nat.zero_le _, rfl, fun j h => absurd h (Nat.not_lt_zero _), Below.refl _ _⟩
  case round =>
    obtain ⟨k, hk, rfl, hall, hb⟩ := hrel
    have HB := hid hb
    have HALL := hid hall
    have d1 := (hb.cell (p := ⟨R, 1, none⟩) hl).trans c1
    by_cases hlt : k < S.work.length
    · have hltI : (k : Int) < S.work.length := by omega
      have HD := hid (HDN.out k wr hb)
      clear hb hall
      cases hd : S.doneN k with
      | true =>
        rw [hd] at HD
        have HDD := hid hd
        clear hd
        go_wp2_with (go_at_call 35; (with_reducible refine HD.out.mono ?_); rintro e w3 ⟨rfl, hb3⟩; have HB3 := hid (below_tr hb3 HB.out (Nat.le_refl _)); clear hb3)
        go_roundw
        case rel =>
          refine ⟨k + 1, by omega, by go_num, fun j hj => ?_, HB3.out⟩
          by_cases hjk : j = k
          · rw [hjk]; exact HDD.out
          · exact HALL.out j (by omega)
        case measure => simp [intOf]; omega
      | false =>
        rw [hd] at HD
        have HV : Hid (S.finN = false) := by
          unfold Hid SL.finN
          rw [List.all_eq_false]
          exact ⟨k, by simpa using hlt, by rw [hd]; decide⟩
        clear hd
        go_wp2_with (go_at_call 35; (with_reducible refine HD.out.mono ?_); rintro e w3 ⟨rfl, hb3⟩; have HB3 := hid (below_tr hb3 HB.out (Nat.le_refl _)); clear hb3)
        go_ret
        exact ⟨ret_bool (by rw [HV.out]), HB3.out⟩
    · have hltI : ¬ ((k : Int) < S.work.length) := by omega
      have HV : Hid (S.finN = true) := by
        unfold Hid SL.finN
        exact List.all_eq_true.2 (fun i hi => hall i (by have : i < S.work.length := by simpa using hi
                                                         omega))
      clear hall
      go_wp2_with fail
      go_ret
      exact ⟨ret_bool (by rw [HV.out]), hb⟩
end Go.Proofs.Ythmockfeffikjaa
namespace Go.Proofs.Ythmockfeffikjaa
open Go.RowKit
variable {W w w1 W' : World} {base R dm tb g : Nat} {S : SL} {fm fs fw fc fw0 : Nat → Prop}

theorem madeV (v : Value) (hv : v.cells = #[v]) (r : Nat) : madeCells v.cells (r * 1) = (List.replicate r v).toArray := by
  rw [hv]
  apply Array.toList_inj.1
  have hall : ∀ u ∈ (madeCells #[v] (r * 1)).toList, u = v := by
    intro u hu
    simp only [madeCells, Array.toList_map, List.mem_map] at hu
    obtain ⟨j, _, rfl⟩ := hu
    have : j % 1 = 0 := by omega
    simp [this]
  rw [List.eq_replicate_of_mem hall]
  simp [madeCells]
set_option maxRecDepth 100000 in
theorem mkI (w : World) (r : Nat) (hr : r ≤ 64) : (Instr.makeSlice 23 (.int .i64 r) (.int .i64 r)).run Try.prog w = .ok (.slice (some ⟨w.heap.size, 0, none⟩) r r) (w.alloc (.cells (List.replicate r (i64 0)).toArray 3)) := by
  obtain ⟨i, hi, hz, hsz, hby⟩ := EI.info
  have h3 : (i.bytes : Int) * r ≤ 281474976710656 := by rw [hby]; omega
  have := run_make (P := Try.prog) w 23 3 i _ EI.desc hi hz .i64 .i64 r r (Int.natCast_nonneg _) (Int.le_refl _) h3 (by omega)
  rw [Int.toNat_natCast, hsz, madeV (.int .i64 0) rfl] at this
  exact this
set_option maxRecDepth 100000 in
theorem mkA (w : World) (r : Nat) (hr : r ≤ 64) : (Instr.makeSlice 61 (.int .i64 r) (.int .i64 r)).run Try.prog w = .ok (.slice (some ⟨w.heap.size, 0, none⟩) r r) (w.alloc (.cells (List.replicate r (Value.slice none 0 0)).toArray 52)) := by
  obtain ⟨i, hi, hz, hsz, hby⟩ := EAnsL.info
  have h3 : (i.bytes : Int) * r ≤ 281474976710656 := by rw [hby]; omega
  have := run_make (P := Try.prog) w 61 52 i _ EAnsL.desc hi hz .i64 .i64 r r (Int.natCast_nonneg _) (Int.le_refl _) h3 (by omega)
  rw [Int.toNat_natCast, hsz, madeV (.slice none 0 0) rfl] at this
  exact this

def RNLTell (w : World) (cs : List Ce) (work : List (List Ac)) (fw0 : Nat → Prop) (e : Ending) (w' : World) : Prop :=
  (nlE cs work = 0 ∧ ∃ R fc, e = .returned (.tuple #[.pointer (some ⟨R, 0, none⟩), i64 0]) ∧ RLM w' w.heap.size R (nl0 cs work) fc (fun k => fw0 k ∨ k = R) ∧ (∀ k, fc k ∨ k = R → w.heap.size ≤ k) ∧ Below w.heap.size w w') ∨
  (nlE cs work ≠ 0 ∧ e = .returned (.tuple #[.pointer none, i64 (nlE cs work)]) ∧ Below w.heap.size w w')
theorem three (u : World) (A B C : Obj) : (((u.alloc A).alloc B).alloc C).heap[u.heap.size]? = some A ∧ (((u.alloc A).alloc B).alloc C).heap[u.heap.size + 1]? = some B ∧ (((u.alloc A).alloc B).alloc C).heap[u.heap.size + 1 + 1]? = some C ∧ Below u.heap.size u (((u.alloc A).alloc B).alloc C) := by
  refine ⟨?_, ?_, ?_, (((Below.refl _ _).alloc (Nat.le_refl _) _).alloc (by simp) _).alloc (by simp; omega) _⟩
  · exact (Below.heap_alloc _ _ _ (by simp; omega)).trans ((Below.heap_alloc _ _ _ (by simp)).trans (heap_alloc_new u A))
  · refine (Below.heap_alloc _ _ _ (by simp)).trans ?_
    have h := heap_alloc_new (u.alloc A) B
    rw [World.size_alloc] at h
    exact h
  · have h := heap_alloc_new ((u.alloc A).alloc B) C
    rw [World.size_alloc, World.size_alloc] at h
    exact h
theorem undrew {B : Nat} {u W' : World} (h : Below B u.drew W') : Below B u W' := ⟨h.os, h.tape, h.output, h.size, h.block⟩
theorem rl_made {cs : List Ce} {work : List (List Ac)} {d : Nat} {fp : Nat → Prop} {wp : Option Addr} {wc : Nat} {qs : List (Option Addr × Nat)} (hE : nlE cs work = 0) (hb1 : Below w.heap.size w w1) (hm : MMach w1 w.heap.size d hdR ⟨cs, 0⟩ fp) (hfp : ∀ k, fp k → w.heap.size ≤ k)
    (WI : WorkIs w wp wc qs work fw0) (hfw : ∀ k, fw0 k → k < w.heap.size) (hl : ∀ l ∈ work, l.length ≤ 4398046511104) (hw : 1 ≤ work.length ∧ work.length ≤ 64) (hlen : cs.length ≤ 4096)
    (hb : Below w1.heap.size w1 W') (hR : W'.heap[R]? = some (.cells #[.pointer (some ⟨d, 0, none⟩), .slice wp work.length wc, .slice (some ⟨tb, 0, none⟩) work.length work.length, .slice (some ⟨g, 0, none⟩) work.length work.length] 63 (0, 0)))
    (ht : W'.heap[tb]? = some (.cells (List.replicate work.length (i64 0)).toArray 3 (0, 0))) (hg : W'.heap[g]? = some (.cells (List.replicate work.length (Value.slice none 0 0)).toArray 52 (0, 0)))
    (h1 : w1.heap.size ≤ R) (h2 : w1.heap.size ≤ tb) (h3 : w1.heap.size ≤ g) (h4 : R ≠ tb) (h5 : R ≠ g) (h6 : tb ≠ g) :
    RNLTell w cs work fw0 (.returned (.tuple #[.pointer (some ⟨R, 0, none⟩), i64 0])) W' := by
  have hz1 := hb1.size
  have hz2 := hb.size
  have hRl := (Array.getElem?_eq_some_iff.1 hR).1
  have htl := (Array.getElem?_eq_some_iff.1 ht).1
  have hgl := (Array.getElem?_eq_some_iff.1 hg).1
  have hml : ∀ j, fp j → j < w1.heap.size := by obtain ⟨v, ys, h⟩ := hm; exact h.lt
  have hbw : Below w.heap.size w W' := hb1.trans (hb.mono hz1)
  have hfs : ∀ j, fw0 j ∨ j = R → ¬ fp j ∧ j ≠ tb ∧ j ≠ g := by
    rintro j (h | h)
    · have := hfw j h
      exact ⟨fun h => by have := hfp j h; omega, by omega, by omega⟩
    · subst h
      exact ⟨fun h => by have := hml j h; omega, h4, h5⟩
  have hs0 : (nl0 cs work).said.length = work.length := by simp [nl0]
  refine .inl ⟨hE, R, fun k => fp k ∨ k = g ∨ k = tb, rfl, ⟨fp, fun k => k = g, d, tb, wp, wc, qs, some ⟨g, 0, none⟩, work.length, List.replicate work.length (Value.slice none 0 0), ⟨?_, hm.below hb, ?_, ?_, ⟨?_, fun i h1 h2 => ?_, fun b e => ?_, fun i h1 b e => ?_, fun i j h1 h2 _ b e => ?_, fun b e => ?_⟩, .inr rfl, fun j hj => ?_, fun j hj e => ?_, fun j hj h => (hfs j h).1 hj, fun j hj h => (hfs j h).2.2 hj, fun h => ?_, h6, fun h => (hfs tb h).2.1 rfl, hs0, fun i h1 h2 => ?_, hw.2, hlen, hl, hbw.size, by omega⟩, fun _ => Iff.rfl⟩, fun k hk => ?_, hbw⟩
  · unfold rlV
    rw [hs0]
    exact hR
  · obtain ⟨a, b, c, d2, e, f⟩ := WI
    have hne0 : wkCells qs work ≠ [] → work ≠ [] := fun hne e3 => hne (List.eq_nil_of_length_eq_zero ((wkCells_len qs work c).trans (by rw [e3]; rfl)))
    refine ⟨row_blk a (fun hne q eq => hbw.block _ (hfw _ (e (hne0 hne) q eq))), b, c, fun i h1 h2 => ?_, fun hne q eq => .inl (e hne q eq), fun i h1 h2 hne q eq => .inl (f i h1 h2 hne q eq)⟩
    obtain ⟨x1, x2, x3, x4⟩ := d2 i h1 h2
    exact ⟨x1, x2, x3, row_blk x4 (fun hne q eq => hbw.block _ (hfw _ (f i h1 h2 (acRow_ne hne) q eq)))⟩
  · have e : atRow (nl0 cs work).said = List.replicate work.length (i64 0) := by simp [atRow, nl0]
    rw [e]; exact ht
  · rw [hs0]
    exact ⟨by simp, .inr ⟨g, work.length, _, rfl, by omega, hg, Nat.le_refl _, by unfold maxLen; omega, by simp, by simp⟩⟩
  · simp only [nl0, List.getElem_replicate]
    exact World.ownsRow_nil _ _ _ _
  · injection e with e; exact e.symm
  · rw [List.getElem_replicate] at e; cases e
  · rw [List.getElem_replicate] at e; cases e
  · have e : b = g := e; omega
  · rcases hj with h | h
    · have := hfw j h; omega
    · omega
  · have e : j = g := e
    have := hml j hj; omega
  · have := hml tb h; omega
  · simp [nl0]
  · rcases hk with (h | h | h) | h
    · exact hfp k h
    · omega
    · omega
    · omega

set_option maxRecDepth 100000 in
set_option maxHeartbeats 4000000 in
theorem rlnew_any (p : Option Addr) (c : Nat) (zs : List CeR) (w : World) (hc : zs.length ≤ c) (hm : c ≤ maxLen) (hrow : Row w p (ceRow zs)) (hsl : ∀ z ∈ zs, SlAt w z.p z.c z.x.came) (hcm : ∀ z ∈ zs, z.x.came.length ≤ 17592186043904)
    (wp : Option Addr) (wc : Nat) (qs : List (Option Addr × Nat)) (work : List (List Ac)) (fw0 : Nat → Prop) (WI : WorkIs w wp wc qs work fw0) (hfw : ∀ k, fw0 k → k < w.heap.size) (hl : ∀ l ∈ work, l.length ≤ 4398046511104) :
    Calls Try.prog 34 #[.slice p zs.length c, .slice wp work.length wc] w (RNLTell w (zs.map CeR.x) work fw0) := by
  have HN := hid (rnew_any p c zs w hc hm hrow hsl hcm)
  have HWI := hid WI
  have HFW := hid hfw
  have HL := hid hl
  have hwm : work.length ≤ 9223372036854775807 := by have := WI.c; unfold maxLen at this; omega
  clear hrow hsl hcm WI hl hc hm hfw
  obtain ⟨cs, hcs⟩ : ∃ cs, cs = zs.map CeR.x := ⟨_, rfl⟩
  rw [← hcs] at HN ⊢
  clear hcs
  unfold NewTell at HN
  by_cases hE : newE cs = 0
  · by_cases hw : 1 ≤ work.length ∧ work.length ≤ 64
    · have HNE : Hid (nlE cs work = 0) := by unfold Hid nlE; rw [if_neg (by omega), if_neg (by omega)]
      have hlen : cs.length ≤ 4096 := by
        unfold newE at hE
        by_cases h : 4096 < cs.length
        · rw [if_pos h] at hE; cases hE
        · omega
      have HLEN := hid hlen
      have HEE := hid hE
      have HW := hid hw
      clear hlen hE
      obtain ⟨hw1, hw2⟩ := hw
      have hw1I : ¬ ((work.length : Int) < 1) := by omega
      have hw2I : ¬ (64 < (work.length : Int)) := by omega
      have k1 := fun u => mkI u work.length hw2
      have k2 := fun u => mkA u work.length hw2
      go_enter Try.func34, Try.ntmps34
      go_upto_region 6 with (go_at_call 49; (with_reducible refine HN.out.mono ?_); rintro e w1 hnt; have hnt2 := hnt.resolve_right (fun h => h.1 HEE.out); obtain ⟨_, d, fp, rfl, hmm, hfp, hb1⟩ := hnt2; have HMM := hid hmm; have HFP := hid hfp; have HB1 := hid hb1; clear hnt hmm hfp hb1)
      go_region
      all_goals
        go_wp2_with fail
        go_ret2
        first
          | (have h3 := three w1.drew (.cells (List.replicate work.length (i64 0)).toArray 3) (.cells (List.replicate work.length (Value.slice none 0 0)).toArray 52) (.cells #[.pointer (some ⟨d, 0, none⟩), .slice wp work.length wc, .slice (some ⟨w1.heap.size, 0, none⟩) work.length work.length, .slice (some ⟨w1.heap.size + 1, 0, none⟩) work.length work.length] 63)
             exact rl_made (tb := w1.heap.size) (g := w1.heap.size + 1) (R := w1.heap.size + 1 + 1) HNE.out HB1.out HMM.out HFP.out HWI.out HFW.out HL.out HW.out HLEN.out (undrew h3.2.2.2) h3.2.2.1 h3.1 h3.2.1 (by omega) (by omega) (by omega) (by omega) (by omega) (by omega))
          | (have h3 := three w1.drew (.cells (List.replicate work.length (Value.slice none 0 0)).toArray 52) (.cells (List.replicate work.length (i64 0)).toArray 3) (.cells #[.pointer (some ⟨d, 0, none⟩), .slice wp work.length wc, .slice (some ⟨w1.heap.size + 1, 0, none⟩) work.length work.length, .slice (some ⟨w1.heap.size, 0, none⟩) work.length work.length] 63)
             exact rl_made (tb := w1.heap.size + 1) (g := w1.heap.size) (R := w1.heap.size + 1 + 1) HNE.out HB1.out HMM.out HFP.out HWI.out HFW.out HL.out HW.out HLEN.out (undrew h3.2.2.2) h3.2.2.1 h3.2.1 h3.1 (by omega) (by omega) (by omega) (by omega) (by omega) (by omega))
    · have HNE : Hid (nlE cs work = 1) := by unfold Hid nlE; rw [if_neg (by omega), if_pos (by omega)]
      have HEE := hid hE
      clear hE
      have fin : ∀ {e : Ending} {w' : World}, e = .returned (.tuple #[.pointer none, i64 1]) → Below w.heap.size w w' → RNLTell w cs work fw0 e w' := fun h1 h2 => .inr ⟨by rw [HNE.out]; decide, by rw [HNE.out]; exact h1, h2⟩
      by_cases hw1 : work.length < 1
      · have hw1I : (work.length : Int) < 1 := by omega
        go_enter Try.func34, Try.ntmps34
        go_wp2_with (go_at_call 49; (with_reducible refine HN.out.mono ?_); rintro e w1 hnt; have hnt2 := hnt.resolve_right (fun h => h.1 HEE.out); obtain ⟨_, d, fp, rfl, hmm, hfp, hb1⟩ := hnt2; have HB1 := hid hb1; clear hnt hmm hfp hb1)
        go_ret2
        exact fin rfl HB1.out
      · have hw1I : ¬ ((work.length : Int) < 1) := by omega
        have hw2I : 64 < (work.length : Int) := by omega
        go_enter Try.func34, Try.ntmps34
        go_wp2_with (go_at_call 49; (with_reducible refine HN.out.mono ?_); rintro e w1 hnt; have hnt2 := hnt.resolve_right (fun h => h.1 HEE.out); obtain ⟨_, d, fp, rfl, hmm, hfp, hb1⟩ := hnt2; have HB1 := hid hb1; clear hnt hmm hfp hb1)
        go_ret2
        exact fin rfl HB1.out
  · have HNE : Hid (nlE cs work = newE cs) := by unfold Hid nlE; rw [if_pos hE]
    have HEE := hid hE
    have hEb : (newE cs != 0) = true := by simpa using hE
    clear hE
    go_enter Try.func34, Try.ntmps34
    go_wp2_with (go_at_call 49; (with_reducible refine HN.out.mono ?_); rintro e w1 hnt; have hnt2 := hnt.resolve_left (fun h => HEE.out h.1); obtain ⟨_, rfl, hb1⟩ := hnt2; have HB1 := hid hb1; clear hnt hb1)
    go_ret2
    exact .inr ⟨by rw [HNE.out]; exact HEE.out, by rw [HNE.out]; rfl, HB1.out⟩
end Go.Proofs.Ythmockfeffikjaa
namespace Go.Proofs.Ythmockfeffikjaa
open Go.RowKit
variable {W W' w : World} {z : SetR}

theorem row_lt {p : Option Addr} {cs : List Value} (h : Row W p cs) (hne : cs ≠ []) : ∀ q, p = some q → q.block < W.heap.size := fun q e => by
  obtain ⟨b, o, e2, hcc⟩ := h hne
  rw [e] at e2; injection e2 with e2
  rw [e2]
  exact World.block_lt_of_cell? W _ (hcc 0 (List.length_pos_iff.2 hne))
theorem SetR.ok.workIsB (h : z.ok w) (hb : Below w.heap.size w W') : WorkIs W' z.wp z.wc z.qs z.work (fun k => k < w.heap.size) := by
  have H := h.workIs
  have H2 : WorkIs w z.wp z.wc z.qs z.work (fun k => k < w.heap.size) := ⟨H.row, H.c, H.len, H.each, fun hne q e => row_lt H.row (fun e3 => hne (List.eq_nil_of_length_eq_zero (by
      rw [← wkCells_len z.qs z.work H.len, e3]; rfl))) q e, fun i h1 h2 hne q e => row_lt (H.each i h1 h2).2.2.2 (fun e3 => hne (List.eq_nil_of_length_eq_zero (by
      have h4 := acRow_len z.work[i]
      rw [e3] at h4
      have h5 : 0 = 4 * z.work[i].length := h4
      omega))) q e⟩
  exact H2.kept (fun k hk => hb.block k hk)
theorem rlnew_at (h : z.ok w) (hb : Below w.heap.size w W) : Calls Try.prog 34 #[.slice z.cp z.zs.length z.cc, .slice z.wp z.work.length z.wc] W (RNLTell W (z.zs.map CeR.x) z.work (fun k => k < w.heap.size)) := by
  have h2 := h.below hb
  exact rlnew_any z.cp z.cc z.zs W h2.c.1 h2.c.2.1 h2.c.2.2.2.1 h2.sl h2.came z.wp z.wc z.qs z.work _ (h.workIsB hb) (fun k hk => Nat.lt_of_lt_of_le hk hb.size) h2.short

def BothTell (w W : World) (cs : List Ce) (work : List (List Ac)) (e : Ending) (w' : World) : Prop :=
  (nlE cs work ≠ 0 ∧ e = .returned (.tuple #[.pointer none, .pointer none, .bool true]) ∧ Below W.heap.size W w') ∨
  (nlE cs work = 0 ∧ ∃ L R fc fw fcr B M, e = .returned (.tuple #[.pointer (some ⟨L, 0, none⟩), .pointer (some ⟨R, 0, none⟩), .bool true]) ∧ LM w' B L (nl0 cs work) fc fw ∧ W.heap.size ≤ B ∧ (∀ k, fc k ∨ fw k → W.heap.size ≤ k ∧ k < M) ∧
    RLM w' M R (nl0 cs work) fcr (fun k => k < w.heap.size ∨ k = R) ∧ (∀ k, fcr k ∨ k = R → M ≤ k) ∧ W.heap.size ≤ M ∧ Below W.heap.size W w')
set_option maxRecDepth 100000 in
set_option maxHeartbeats 4000000 in
theorem both_at (h : z.ok w) (hb : Below w.heap.size w W) : Calls Try.prog 14 #[.agg z.cells.toArray] W (BothTell w W (z.zs.map CeR.x) z.work) := by
  have HNL := hid (fun w1 (hb1 : Below w.heap.size w w1) => newlists_at (h.below hb1))
  have HRN := hid (fun w1 (hb1 : Below w.heap.size w w1) => rlnew_at h hb1)
  have HB := hid hb
  rw [z.cells_eq]
  unfold NLTell at HNL
  unfold RNLTell at HRN
  obtain ⟨w0, hw0⟩ : ∃ w0, w0 = W.alloc (.cells #[.slice z.cp z.zs.length z.cc, .slice z.wp z.work.length z.wc, .slice z.kp z.ps.length z.kc] 28) := ⟨_, rfl⟩
  have HX : Hid (w0.heap[W.heap.size]? = some (.cells #[.slice z.cp z.zs.length z.cc, .slice z.wp z.work.length z.wc, .slice z.kp z.ps.length z.kc] 28 (0, 0))) := by rw [hw0]; exact heap_alloc_new _ _
  have HB0 : Hid (Below W.heap.size W w0) := by rw [hw0]; exact (Below.refl _ _).alloc (Nat.le_refl _) _
  have hz0 : w0.heap.size = W.heap.size + 1 := by rw [hw0]; simp
  have HW0 := hid hw0
  have hbs := hb.size
  clear hw0 h hb
  change Calls Try.prog 14 #[.agg #[.slice z.cp z.zs.length z.cc, .slice z.wp z.work.length z.wc, .slice z.kp z.ps.length z.kc]] W _
  generalize z.zs.map CeR.x = cs at *
  generalize z.work = work at *
  by_cases hE : nlE cs work = 0
  · have HNE := hid hE
    clear hE
    go_enter Try.func14, Try.ntmps14
    go_upto_region 1 with (fail)
    rw [← HW0.out]
    have x0 : w0.cell? ⟨W.heap.size, 0, none⟩ = some (.slice z.cp z.zs.length z.cc) := cell_of_row _ _ 0 _ _ _ HX.out
    have x1 : w0.cell? ⟨W.heap.size, 1, none⟩ = some (.slice z.wp work.length z.wc) := cell_of_row _ _ 1 _ _ _ HX.out
    go_wp2_with (first
      | (go_at_call 10; (with_reducible refine (HNL.out _ (HB.out.trans (HB0.out.mono hbs))).mono ?_); rintro e w1 hnt; have hnt2 := hnt.resolve_right (fun h => h.1 HNE.out); obtain ⟨_, L, fc, fw, rfl, hlm, hff, hb1⟩ := hnt2; have HLM := hid hlm; have HFF := hid hff; have HB1 := hid hb1; have hx1 := (hb1.block _ (by omega : W.heap.size < w0.heap.size)).trans HX.out; have y0 := cell_of_row w1 W.heap.size 0 _ _ _ hx1; have y1 := cell_of_row w1 W.heap.size 1 _ _ _ hx1; simp at y0 y1; clear hnt hlm hff hb1 hx1)
      | (go_at_call 34; (with_reducible refine (HRN.out _ ((HB.out.trans (HB0.out.mono hbs)).trans (HB1.out.mono (by omega)))).mono ?_); rintro e w2 hnt; have hnt2 := hnt.resolve_right (fun h => h.1 HNE.out); obtain ⟨_, R, fcr, rfl, hrm, hrf, hb2⟩ := hnt2; have HRM := hid hrm; have HRF := hid hrf; have HB2 := hid hb2; clear hnt hrm hrf hb2))
    refine bodyPost_ret (v := .tuple #[.pointer (some ⟨L, 0, none⟩), .pointer (some ⟨R, 0, none⟩), .bool true]) (by simp [results, Try.results14, go_sem]) rfl ?_
    have hz1 := HB1.out.size
    refine .inr ⟨HNE.out, L, R, fc, fw, fcr, w0.heap.size, w1.heap.size, rfl, HLM.out.below HB2.out, by omega, fun k hk => ⟨?_, HLM.out.lt k hk⟩, HRM.out, HRF.out, by omega, (HB0.out.trans (HB1.out.mono (by omega))).trans (HB2.out.mono (by omega))⟩
    have := HFF.out k hk
    omega
  · have HNE := hid hE
    have hEb : (nlE cs work == nlE cs work) = true := by simp
    clear hE
    go_enter Try.func14, Try.ntmps14
    go_upto_region 1 with (fail)
    rw [← HW0.out]
    have x0 : w0.cell? ⟨W.heap.size, 0, none⟩ = some (.slice z.cp z.zs.length z.cc) := cell_of_row _ _ 0 _ _ _ HX.out
    have x1 : w0.cell? ⟨W.heap.size, 1, none⟩ = some (.slice z.wp work.length z.wc) := cell_of_row _ _ 1 _ _ _ HX.out
    go_wp2_with (first
      | (go_at_call 10; (with_reducible refine (HNL.out _ (HB.out.trans (HB0.out.mono hbs))).mono ?_); rintro e w1 hnt; have hnt2 := hnt.resolve_left (fun h => HNE.out h.1); obtain ⟨_, rfl, hb1⟩ := hnt2; have HB1 := hid hb1; have hx1 := (hb1.block _ (by omega : W.heap.size < w0.heap.size)).trans HX.out; have y0 := cell_of_row w1 W.heap.size 0 _ _ _ hx1; have y1 := cell_of_row w1 W.heap.size 1 _ _ _ hx1; simp at y0 y1; clear hnt hb1 hx1)
      | (go_at_call 34; (with_reducible refine (HRN.out _ ((HB.out.trans (HB0.out.mono hbs)).trans (HB1.out.mono (by omega)))).mono ?_); rintro e w2 hnt; have hnt2 := hnt.resolve_left (fun h => HNE.out h.1); obtain ⟨_, rfl, hb2⟩ := hnt2; have HB2 := hid hb2; clear hnt hb2))
    refine bodyPost_ret (v := .tuple #[.pointer none, .pointer none, .bool true]) (by simp [results, Try.results14, go_sem]) rfl ?_
    have hz1 := HB1.out.size
    exact .inl ⟨HNE.out, rfl, (HB0.out.trans (HB1.out.mono (by omega))).trans (HB2.out.mono (by omega))⟩
end Go.Proofs.Ythmockfeffikjaa
namespace Go.Proofs.Ythmockfeffikjaa
variable {S : SL} {most : Int}

/-- The picks that were not skipped, and where they lead. -/
def SL.filt : List Int → SL → List Int
  | [], _ => []
  | w :: l, S => if S.canN w = false then SL.filt l S else w :: SL.filt l (S.stepN w)
def SL.goes : List Int → SL → SL
  | [], S => S
  | w :: l, S => if S.canN w = false then SL.goes l S else SL.goes l (S.stepN w)
theorem goes_app : ∀ (a b : List Int) (S : SL), S.goes (a ++ b) = (S.goes a).goes b
  | [], b, S => rfl
  | w :: a, b, S => by
    show (if S.canN w = false then SL.goes (a ++ b) S else SL.goes (a ++ b) (S.stepN w)) = SL.goes b (if S.canN w = false then SL.goes a S else SL.goes a (S.stepN w))
    split
    · exact goes_app a b S
    · exact goes_app a b _
theorem filt_app : ∀ (a b : List Int) (S : SL), S.filt (a ++ b) = S.filt a ++ (S.goes a).filt b
  | [], b, S => rfl
  | w :: a, b, S => by
    show (if S.canN w = false then SL.filt (a ++ b) S else w :: SL.filt (a ++ b) (S.stepN w)) = (if S.canN w = false then SL.filt a S else w :: SL.filt a (S.stepN w)) ++ SL.filt b (if S.canN w = false then SL.goes a S else SL.goes a (S.stepN w))
    split
    · exact filt_app a b S
    · rw [filt_app a b]; rfl
theorem filt_yes {w : Int} (a : List Int) (h : (S.goes a).canN w = true) : S.filt (a ++ [w]) = S.filt a ++ [w] ∧ S.goes (a ++ [w]) = (S.goes a).stepN w := by
  rw [filt_app, goes_app]
  have h2 : ¬ (S.goes a).canN w = false := by rw [h]; decide
  exact ⟨by show S.filt a ++ (if (S.goes a).canN w = false then [] else [w]) = _; rw [if_neg h2], by show (if (S.goes a).canN w = false then _ else _) = _; rw [if_neg h2]; rfl⟩
theorem filt_no {w : Int} (a : List Int) (h : (S.goes a).canN w = false) : S.filt (a ++ [w]) = S.filt a ∧ S.goes (a ++ [w]) = S.goes a := by
  rw [filt_app, goes_app]
  exact ⟨by show S.filt a ++ (if (S.goes a).canN w = false then [] else [w]) = _; rw [if_pos h, List.append_nil], by show (if (S.goes a).canN w = false then _ else _) = _; rw [if_pos h]; rfl⟩
theorem filt_len : ∀ (l : List Int) (S : SL), (S.filt l).length ≤ l.length
  | [], S => Nat.le_refl _
  | w :: l, S => by
    show (if S.canN w = false then SL.filt l S else w :: SL.filt l (S.stepN w)).length ≤ _
    have h1 := filt_len l S
    have h2 := filt_len l (S.stepN w)
    split <;> simp only [List.length_cons] <;> omega

theorem picks_filt (most : Int) : ∀ (l : List Int) (S : SL) (p s t : Int),
    (S.picks most (S.filt l) ⟨p, 0, t⟩).1 = (S.picks most l ⟨p, s, t⟩).1 ∧ (S.picks most (S.filt l) ⟨p, 0, t⟩).2.1.p = (S.picks most l ⟨p, s, t⟩).2.1.p ∧ (S.picks most (S.filt l) ⟨p, 0, t⟩).2.1.s = 0 ∧ (S.picks most (S.filt l) ⟨p, 0, t⟩).2.1.t = (S.picks most l ⟨p, s, t⟩).2.1.t ∧ (S.picks most (S.filt l) ⟨p, 0, t⟩).2.2 = (S.picks most l ⟨p, s, t⟩).2.2
  | [], S, p, s, t => ⟨rfl, rfl, rfl, rfl, rfl⟩
  | w :: l, S, p, s, t => by
    cases hc : S.canN w
    · have e1 : S.filt (w :: l) = S.filt l := if_pos hc
      have e2 : S.picks most (w :: l) ⟨p, s, t⟩ = S.picks most l ⟨p, s + 1, t⟩ := if_pos hc
      rw [e1, e2]
      exact picks_filt most l S p (s + 1) t
    · have hc2 : ¬ S.canN w = false := by rw [hc]; decide
      have e1 : S.filt (w :: l) = w :: (S.stepN w).filt l := if_neg hc2
      rw [e1]
      by_cases ho : most ≤ p + t
      · have e2 : S.picks most (w :: l) ⟨p, s, t⟩ = (S, ⟨p, s, t⟩, true) := (if_neg hc2).trans (if_pos ho)
        have e3 : S.picks most (w :: (S.stepN w).filt l) ⟨p, 0, t⟩ = (S, ⟨p, 0, t⟩, true) := (if_neg hc2).trans (if_pos ho)
        rw [e2, e3]
        exact ⟨rfl, rfl, rfl, rfl, rfl⟩
      · have e2 : S.picks most (w :: l) ⟨p, s, t⟩ = (S.stepN w).picks most l ⟨p + 1, s, t⟩ := (if_neg hc2).trans (if_neg ho)
        have e3 : S.picks most (w :: (S.stepN w).filt l) ⟨p, 0, t⟩ = (S.stepN w).picks most ((S.stepN w).filt l) ⟨p + 1, 0, t⟩ := (if_neg hc2).trans (if_neg ho)
        rw [e2, e3]
        exact picks_filt most l _ (p + 1) s t
theorem turn_s (most : Int) : ∀ (l : List Int) (S : SL) (p s s2 t : Int) (mv : Bool),
    (S.turn most l ⟨p, s2, t⟩ mv).1 = (S.turn most l ⟨p, s, t⟩ mv).1 ∧ (S.turn most l ⟨p, s2, t⟩ mv).2.1.p = (S.turn most l ⟨p, s, t⟩ mv).2.1.p ∧ (S.turn most l ⟨p, s2, t⟩ mv).2.1.s = s2 ∧ (S.turn most l ⟨p, s2, t⟩ mv).2.1.t = (S.turn most l ⟨p, s, t⟩ mv).2.1.t ∧ (S.turn most l ⟨p, s2, t⟩ mv).2.2 = (S.turn most l ⟨p, s, t⟩ mv).2.2
  | [], S, p, s, s2, t, mv => ⟨rfl, rfl, rfl, rfl, rfl⟩
  | w :: l, S, p, s, s2, t, mv => by
    cases hc : S.canN w
    · have e (x : Int) : S.turn most (w :: l) ⟨p, x, t⟩ mv = S.turn most l ⟨p, x, t⟩ mv := if_pos hc
      rw [e, e]
      exact turn_s most l S p s s2 t mv
    · have hc2 : ¬ S.canN w = false := by rw [hc]; decide
      by_cases ho : most ≤ p + t
      · have e (x : Int) : S.turn most (w :: l) ⟨p, x, t⟩ mv = (S, ⟨p, x, t⟩, mv, true) := (if_neg hc2).trans (if_pos ho)
        rw [e, e]
        exact ⟨rfl, rfl, rfl, rfl, rfl⟩
      · have e (x : Int) : S.turn most (w :: l) ⟨p, x, t⟩ mv = (S.stepN w).turn most l ⟨p, x, t + 1⟩ true := (if_neg hc2).trans (if_neg ho)
        rw [e, e]
        exact turn_s most l _ p s s2 (t + 1) true
theorem tail_s (most : Int) : ∀ (f : Nat) (S : SL) (p s s2 t : Int),
    (S.tail most f ⟨p, s2, t⟩).1 = (S.tail most f ⟨p, s, t⟩).1 ∧ (S.tail most f ⟨p, s2, t⟩).2.1.p = (S.tail most f ⟨p, s, t⟩).2.1.p ∧ (S.tail most f ⟨p, s2, t⟩).2.1.s = s2 ∧ (S.tail most f ⟨p, s2, t⟩).2.1.t = (S.tail most f ⟨p, s, t⟩).2.1.t ∧ (S.tail most f ⟨p, s2, t⟩).2.2 = (S.tail most f ⟨p, s, t⟩).2.2
  | 0, S, p, s, s2, t => ⟨rfl, rfl, rfl, rfl, rfl⟩
  | f + 1, S, p, s, s2, t => by
    rw [tail_step, tail_step]
    have h := turn_s most (wlist S.work.length 0) S p s s2 t false
    generalize S.turn most (wlist S.work.length 0) ⟨p, s2, t⟩ false = A at h
    generalize S.turn most (wlist S.work.length 0) ⟨p, s, t⟩ false = B at h
    obtain ⟨A1, ⟨ap, asx, atx⟩, A3⟩ := A
    obtain ⟨B1, ⟨bp, bsx, bt⟩, B3⟩ := B
    obtain ⟨h1, h2, h3, h4, h5⟩ := h
    dsimp only at h1 h2 h3 h4 h5
    subst h1 h2 h3 h4 h5
    split
    · exact ⟨rfl, rfl, rfl, rfl, rfl⟩
    · split
      · exact ⟨rfl, rfl, rfl, rfl, rfl⟩
      · split
        · exact ⟨rfl, rfl, rfl, rfl, rfl⟩
        · exact tail_s most f _ _ _ _ _
/-- The same run, but for who was skipped. -/
theorem run_filt (S : SL) (l : List Int) (most : Int) (hl : l.length ≤ 65536) :
    (S.run (S.filt l) most).1 = (S.run l most).1 ∧ (S.run (S.filt l) most).2.1.p = (S.run l most).2.1.p ∧ (S.run (S.filt l) most).2.1.s = 0 ∧ (S.run (S.filt l) most).2.1.t = (S.run l most).2.1.t ∧ (S.run (S.filt l) most).2.2 = (S.run l most).2.2 := by
  have hl2 := filt_len l S
  unfold SL.run
  rw [if_neg (show ¬ 65536 < (S.filt l).length by omega), if_neg (show ¬ 65536 < l.length by omega)]
  split
  · exact ⟨rfl, rfl, rfl, rfl, rfl⟩
  · have h := picks_filt most l S 0 0 0
    generalize S.picks most (S.filt l) ⟨0, 0, 0⟩ = A at h
    generalize S.picks most l ⟨0, 0, 0⟩ = B at h
    obtain ⟨A1, ⟨ap, asx, atx⟩, A3⟩ := A
    obtain ⟨B1, ⟨bp, bsx, bt⟩, B3⟩ := B
    obtain ⟨h1, h2, h3, h4, h5⟩ := h
    dsimp only at h1 h2 h3 h4 h5
    subst h1 h2 h3 h4 h5
    cases A3
    · exact tail_s most _ _ _ _ _ _
    · exact ⟨rfl, rfl, rfl, rfl, rfl⟩
end Go.Proofs.Ythmockfeffikjaa
namespace Go.Proofs.Ythmockfeffikjaa
open Go.RowKit
variable {w w3 wr w4 w5 w6 : World} {M R j : Nat} {S0 : SL} {ps : List Int} {pv v' : Value}

structure SKI (w w3 : World) (M R : Nat) (S0 : SL) (ps : List Int) (j : Nat) (wr : World) (pv : Value) : Prop where
  ex : ∃ fcr, RLM wr M R (S0.goes (ps.take j)) fcr (fun k => k < w.heap.size ∨ k = R) ∧ (∀ k, fcr k ∨ k = R → M ≤ k) ∧ (∀ g, pv.ownBlock = some g → ¬ fcr g)
  b : Below M w3 wr
  own : wr.ownsRow w3.heap.size 3 1 pv (S0.filt (ps.take j)).length (ints64 (S0.filt (ps.take j)))
theorem SKI.start {fcr : Nat → Prop} (h : RLM w3 M R S0 fcr (fun k => k < w.heap.size ∨ k = R)) (hM : ∀ k, fcr k ∨ k = R → M ≤ k) : SKI w w3 M R S0 ps 0 w3 (.slice none 0 0) :=
  ⟨⟨fcr, h, hM, fun g e => by cases e⟩, Below.refl _ _, World.ownsRow_nil _ _ _ _⟩
theorem SKI.mlt (H : SKI w w3 M R S0 ps j wr pv) : M ≤ wr.heap.size := by
  obtain ⟨fcr, h, hM, _⟩ := H.ex
  have h1 := h.r1.1
  have h2 := hM R (.inr rfl)
  omega
theorem ski_take (hj : j < ps.length) : ps.take (j + 1) = ps.take j ++ [ps[j]] := take_succ ps j hj
theorem SKI.no (H : SKI w w3 M R S0 ps j wr pv) (hj : j < ps.length) (hb : Below wr.heap.size wr w4) (hc : (S0.goes (ps.take j)).canN ps[j] = false) : SKI w w3 M R S0 ps (j + 1) w4 pv := by
  obtain ⟨fcr, h, hM, hn⟩ := H.ex
  have hml := H.mlt
  obtain ⟨e1, e2⟩ := filt_no (S := S0) (ps.take j) hc
  refine ⟨⟨fcr, ?_, hM, hn⟩, H.b.trans (hb.mono hml), ?_⟩
  · rw [ski_take hj, e2]; exact h.below hb
  · rw [ski_take hj, e1]; exact own_below H.own hb
/-- A pick more is written down. -/
structure SKA (w w3 : World) (M R : Nat) (S0 : SL) (ps : List Int) (j : Nat) (w5 : World) (v' : Value) (fcr : Nat → Prop) (p : Int) : Prop where
  m : RLM w5 M R (S0.goes (ps.take j)) fcr (fun k => k < w.heap.size ∨ k = R)
  lo : ∀ k, fcr k ∨ k = R → M ≤ k
  n : ∀ g, v'.ownBlock = some g → ¬ fcr g
  b : Below M w3 w5
  own : w5.ownsRow w3.heap.size 3 1 v' ((S0.filt (ps.take j)).length + 1) (ints64 (S0.filt (ps.take j)) ++ [i64 p])
theorem SKI.app {o : Obj} {p : Int} (H : SKI w w3 M R S0 ps j wr pv) (hw : w.heap.size ≤ M) (h3 : R < w3.heap.size) (hb : Below wr.heap.size wr w4) (hown : w5.ownsRow w3.heap.size 3 1 v' ((S0.filt (ps.take j)).length + 1) (ints64 (S0.filt (ps.take j)) ++ [i64 p]))
    (hg : (w4.alloc o).grownBy w5 pv.ownBlock) (hst : Stayed (w4.alloc o) pv v') : ∃ fcr, SKA w w3 M R S0 ps j w5 v' fcr p := by
  obtain ⟨fcr, h, hM, hn⟩ := H.ex
  have hml := H.mlt
  have hz4 := hb.size
  have hz5 := hg.size
  have hzs : (w4.alloc o).heap.size = w4.heap.size + 1 := by simp
  have hge := own_ge H.own
  have hlt := h.lt
  have h4 := (h.below hb).below ((Below.refl _ _).alloc (Nat.le_refl _) o)
  refine ⟨fcr, h4.kept (fun k hk => hg.block k (by have := hlt k hk; omega) (fun e => ?_)) (by omega), hM, fun g e hf => ?_, ?_, hown⟩
  · have h6 := hge k e.symm
    rcases hk with h1 | h1 | h1
    · exact hn k e.symm h1
    · have := hM R (.inr rfl); omega
    · omega
  · rcases hst g e with h1 | h1
    · exact hn g h1 hf
    · have := hlt g (.inl hf); omega
  · exact (((H.b.trans (hb.mono hml)).alloc (by have := H.b.size; have := hM R (.inr rfl); omega) o)).grown hg (by omega) (fun g e => by have := hge g e; have := hM R (.inr rfl); omega)
theorem SKA.step {fcr : Nat → Prop} {e : Ending} {p : Int} (H : SKA w w3 M R S0 ps j w5 v' fcr p) (hj : j < ps.length) (hp : p = ps[j]) (hc : (S0.goes (ps.take j)).canN ps[j] = true) (hs : RStep w5 M R ((S0.goes (ps.take j)).stepN ps[j]) fcr (fun k => k < w.heap.size ∨ k = R) e w6) : SKI w w3 M R S0 ps (j + 1) w6 v' := by
  obtain ⟨_, fc2, h2, hf2, ht, hb2⟩ := hs
  obtain ⟨e1, e2⟩ := filt_yes (S := S0) (ps.take j) hc
  have hvl := own_lt H.own
  have hM5 : M ≤ w5.heap.size := by have h1 := H.m.r1.1; have h2 := H.lo R (.inr rfl); omega
  refine ⟨⟨fc2, ?_, fun k hk => ?_, fun g e hf => ?_⟩, H.b.trans hb2, ?_⟩
  · rw [ski_take hj, e2]; exact h2
  · rcases hk with h | h
    · rcases hf2 k h with h | h
      · exact H.lo k (.inl h)
      · omega
    · exact H.lo k (.inr h)
  · rcases hf2 g hf with h | h
    · exact H.n g e h
    · have := hvl g e; omega
  · rw [ski_take hj, e1]
    have h := own_blk H.own (fun g e => ht.block g (hvl g e) (H.n g e))
    rw [hp] at h
    rw [List.length_append, List.length_singleton]
    have e3 : ints64 (S0.filt (ps.take j) ++ [ps[j]]) = ints64 (S0.filt (ps.take j)) ++ [i64 ps[j]] := by simp [ints64]
    rw [e3]
    exact h
end Go.Proofs.Ythmockfeffikjaa
