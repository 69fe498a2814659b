/-
  The machine of lists behind the interface: able, Pick, Finished.
  The law of a range over a function whose value is told with memory of its own, for a loop that lays its variables in blocks of their own each round.
-/
import Derived.Test.YthmockfeffikjaaJE18
import Derived.Test.YthmockfeffikjaaJE15
namespace Go.Proofs.Ythmockfeffikjaa
open Go.RowKit
variable {W W' : World} {base L : Nat} {S : SL} {fw fc : Nat → Prop}

def mi (L : Nat) : Value := .iface 35 (.pointer (some ⟨L, 0, none⟩))
theorem m_workers (a : Addr) (w : World) : (method 235 35 (.pointer (some a)) "Workers").run Try.prog w = .ok (25, .pointer (some a)) w := by kernel_rfl
theorem m_done (a : Addr) (w : World) : (method 235 35 (.pointer (some a)) "Done").run Try.prog w = .ok (26, .pointer (some a)) w := by kernel_rfl
theorem m_waits (a : Addr) (w : World) : (method 235 35 (.pointer (some a)) "Waits").run Try.prog w = .ok (27, .pointer (some a)) w := by kernel_rfl
theorem m_step (a : Addr) (w : World) : (method 235 35 (.pointer (some a)) "Step").run Try.prog w = .ok (24, .pointer (some a)) w := by kernel_rfl
theorem below_tr {B : Nat} {W w1 w2 : World} (h2 : Below w1.heap.size w1 w2) (h1 : Below B W w1) (hB : B ≤ W.heap.size) : Below B W w2 := h1.trans (h2.mono (Nat.le_trans hB h1.size))
theorem next_out {n : Int} (h : ¬ (0 ≤ n ∧ n < S.work.length)) : S.canN n = false := by
  unfold SL.canN SL.doneN SL.next
  rw [if_neg h]; rfl

set_option maxRecDepth 100000 in
set_option maxHeartbeats 2000000 in
theorem able_any (H : LM W base L S fc fw) (n : Int) : Calls Try.prog 31 #[mi L, i64 n] W fun e w' => e = .returned (.bool (S.canN n)) ∧ Below W.heap.size W w' := by
  unfold mi
  have HW := hid (lworkers_any H)
  have HD := hid (ldone_any H n)
  have HWT := hid (fun w' (hb : Below W.heap.size W w') => lwaits_any (H.below hb) n)
  have k1 := m_workers
  have k2 := m_done
  have k3 := m_waits
  clear H
  by_cases h0 : 0 ≤ n
  · by_cases h1 : n < S.work.length
    · have HC : Hid (S.canN n = (!S.doneN n && !S.waitsN n)) := rfl
      generalize S.doneN n = td at *
      generalize S.waitsN n = tw at *
      cases td
      · go_enter Try.func31, Try.ntmps31
        go_wp2_with (first
          | (go_at_call 25; (with_reducible refine HW.out.mono ?_); rintro e w' ⟨rfl, rfl⟩)
          | (go_at_call 26; (with_reducible refine HD.out.mono ?_); rintro e w2 ⟨rfl, hb2⟩; have HB2 := hid hb2; clear hb2)
          | (go_at_call 27; (with_reducible refine (HWT.out _ HB2.out).mono ?_); rintro e w3 ⟨rfl, hb3⟩; have HB3 := hid hb3; clear hb3))
        go_ret
        exact ⟨ret_bool (by rw [HC.out]; cases tw <;> rfl), below_tr HB3.out HB2.out (Nat.le_refl _)⟩
      · go_enter Try.func31, Try.ntmps31
        go_wp2_with (first
          | (go_at_call 25; (with_reducible refine HW.out.mono ?_); rintro e w' ⟨rfl, rfl⟩)
          | (go_at_call 26; (with_reducible refine HD.out.mono ?_); rintro e w2 ⟨rfl, hb2⟩; have HB2 := hid hb2; clear hb2))
        go_ret
        exact ⟨ret_bool (by rw [HC.out]; rfl), HB2.out⟩
    · have HC : Hid (S.canN n = false) := next_out (by omega)
      go_enter Try.func31, Try.ntmps31
      go_wp2_with (go_at_call 25; (with_reducible refine HW.out.mono ?_); rintro e w' ⟨rfl, rfl⟩)
      go_ret
      exact ⟨ret_bool (by first | (rw [HC.out]; done) | (rw [HC.out]; simpa using h1)), Below.refl _ _⟩
  · have HC : Hid (S.canN n = false) := next_out (by omega)
    go_enter Try.func31, Try.ntmps31
    go_wp2
    go_ret
    exact ⟨ret_bool (by rw [HC.out]), Below.refl _ _⟩

/-- A step of whoever can go on. -/
def SL.pickN (S : SL) (n : Int) : SL := if S.canN n then S.stepN n else S
set_option maxRecDepth 100000 in
set_option maxHeartbeats 2000000 in
theorem pick_any (H : LM W base L S fc fw) (n : Int) : Calls Try.prog 23 #[mi L, i64 n] W fun e w' => e = .returned (.bool (S.canN n)) ∧ ∃ fc', LM w' base L (S.pickN n) fc' fw ∧ (∀ k, fc' k → fc k ∨ W.heap.size ≤ k) ∧ Turn fc W w' ∧ Below base W w' := by
  have HA := hid (able_any H n)
  have HS := hid (fun w' (hb : Below W.heap.size W w') => lstep_any (H.below hb) n)
  have HB := hid (fun w' (hb : Below W.heap.size W w') => H.below hb)
  have hbs : Hid (base ≤ W.heap.size) := by obtain ⟨_, _, _, _, _, _, _, _, _, h, _⟩ := H; exact h.bs
  have k4 := m_step
  unfold mi at *
  unfold LStep at HS
  unfold SL.pickN
  clear H
  cases hc : S.canN n
  · rw [hc] at HA
    clear hc
    go_enter Try.func23, Try.ntmps23
    go_wp2_with (go_at_call 31; (with_reducible refine HA.out.mono ?_); rintro e w2 ⟨rfl, hb2⟩; have HB2 := hid hb2; clear hb2)
    go_ret
    exact ⟨rfl, fc, HB.out _ HB2.out, fun _ h => .inl h, Turn.of_below HB2.out, HB2.out.mono hbs.out⟩
  · rw [hc] at HA
    clear hc
    go_enter Try.func23, Try.ntmps23
    go_wp2_with (first
      | (go_at_call 31; (with_reducible refine HA.out.mono ?_); rintro e w2 ⟨rfl, hb2⟩; have HB2 := hid hb2; clear hb2)
      | (go_at_call 24; (with_reducible refine (HS.out _ HB2.out).mono ?_); rintro e w3 ⟨rfl, fc3, hm3, hf3, ht3, hb3⟩; have HM3 := hid hm3; have HF3 := hid hf3; have HT3 := hid ht3; have HB3 := hid hb3; clear hm3 hf3 ht3 hb3))
    go_ret
    exact ⟨rfl, fc3, HM3.out, fun j hj => (HF3.out j hj).imp id (fun h => Nat.le_trans HB2.out.size h), Turn.after HB2.out HT3.out, (HB2.out.mono hbs.out).trans HB3.out⟩

def SL.finN (S : SL) : Bool := (List.range S.work.length).all (fun i => S.doneN i)
theorem LM.bnd (H : LM W base L S fc fw) : S.work.length ≤ 64 := by obtain ⟨_, _, _, _, _, _, _, _, _, h, _⟩ := H; exact h.n1
set_option maxRecDepth 100000 in
set_option maxHeartbeats 2000000 in
theorem fin_any (H : LM W base L S fc fw) : Calls Try.prog 12 #[mi L] W fun e w' => e = .returned (.bool S.finN) ∧ Below W.heap.size W w' := by
  have hb64 := H.bnd
  have HW := hid (lworkers_any H)
  have HD := hid (fun w' (hb : Below W.heap.size W w') (n : Int) => ldone_any (H.below hb) n)
  have k1 := m_workers
  have k2 := m_done
  unfold mi
  clear H
  go_enter Try.func12, Try.ntmps12
  go_wp2_with (go_at_call 25; (with_reducible refine HW.out.mono ?_); rintro e w' ⟨rfl, rfl⟩)
  go_loopw [8] (fun i wr => ∃ k : Nat, k ≤ S.work.length ∧ i = .int .i64 k ∧ (∀ j, j < k → S.doneN j = true) ∧ Below W.heap.size W wr) (fun i _ => S.work.length - (intOf i).toNat)
  case atStart => exact ⟨0, Nat.zero_le _, rfl, fun j hj => by omega, Below.refl _ _⟩
  case round =>
    obtain ⟨k, hk, rfl, hall, hb⟩ := hrel
    have HALL := hid hall
    have HB := hid hb
    clear hall hb
    by_cases hlt : k < S.work.length
    · have HDK := hid (HD.out wr HB.out k)
      cases hd : S.doneN k
      · rw [hd] at HDK
        have HN := hid hd
        clear hd
        go_wp2_with (go_at_call 26; (with_reducible refine HDK.out.mono ?_); rintro e w2 ⟨rfl, hb2⟩; have HB2 := hid hb2; clear hb2)
        go_ret
        refine ⟨ret_bool ?_, below_tr HB2.out HB.out (Nat.le_refl _)⟩
        symm
        unfold SL.finN
        rw [← Bool.not_eq_true, List.all_eq_true]
        intro h
        have := h k (List.mem_range.2 hlt)
        rw [HN.out] at this
        cases this
      · rw [hd] at HDK
        have HN := hid hd
        clear hd
        go_wp2_with (go_at_call 26; (with_reducible refine HDK.out.mono ?_); rintro e w2 ⟨rfl, hb2⟩; have HB2 := hid hb2; clear hb2)
        go_roundw
        case rel => exact ⟨k + 1, by omega, by go_num, fun j hj => by
          by_cases h : j = k
          · subst h; exact HN.out
          · exact HALL.out j (by omega), below_tr HB2.out HB.out (Nat.le_refl _)⟩
        case measure => simp [intOf]; omega
    · go_wp2
      go_ret
      refine ⟨ret_bool ?_, HB.out⟩
      symm
      unfold SL.finN
      rw [List.all_eq_true]
      intro x hx
      exact HALL.out x (by have := List.mem_range.1 hx; omega)
end Go.Proofs.Ythmockfeffikjaa
namespace Go.Proofs.Ythmockfeffikjaa
open Go.RowKit
variable {F : Fence} {n : Nat} {P : Program}

theorem wpIn_rangeFunc_VA {α : Type} {g : Operand} {ps : Array Tmp} {assign body : Code} {Q : Exit → Act → World → Prop} {a : Act} {w : World}
    (hro : F.round = none) (h1 : 1 ≤ n) {gf : Nat} {lb : Array Value} (hg : a.eval g = .func (.func gf) #[] lb) (hFg : F.fn gf) (eg : ∀ args w, (callFunc gf args).run P w = .ok (.enter gf args) w)
    {encs : α → Array Value} {V : List α → Nat → α → World → Prop} {St : World → World → Prop} {Mine : Nat → Prop} {S Sp : List α → Prop} {w0 : World} (hseq : SeqV F (n - 1) P gf lb encs V St Mine S Sp w0)
    (hb0 : Below w0.heap.size w0 w) (hps : ∀ x, (encs x).size = ps.size) (hMine : ∀ k, Mine k → k < w.heap.size)
    (hSt : ∀ W W', St W W' → ∀ (k : Nat) (o : Obj), W.heap[k]? = some o → o.isCells = false → o.isWalk = false → W'.heap[k]? = some o)
    (hV : ∀ pre hs x W (l : Nat) (r : Loop) (o : Obj), V pre hs x W → W.heap[l]? = some (.loop r) → V pre hs x (W.putObj l o))
    (I : List α → (Nat → Prop) → Nat → World → Prop) (Ix : Code → List α → World → Prop)
    (hI : ∀ pre T hs W W', I pre T hs W → St W W' → I pre T hs W') (hIx : ∀ c pre W W', Ix c pre W → St W W' → Ix c pre W')
    (hIp : ∀ pre T hs W (r : Loop) (o : Obj), I pre T hs W → W.heap[w.heap.size + 1]? = some (.loop r) → I pre T hs (W.putObj (w.heap.size + 1) o))
    (hIxp : ∀ c pre W (r : Loop) (o : Obj), Ix c pre W → W.heap[w.heap.size + 1]? = some (.loop r) → Ix c pre (W.putObj (w.heap.size + 1) o))
    (h0 : ∀ r : Loop, I [] Mine (w.heap.size + 2) ((w.alloc (.deferred (some []))).alloc (.loop r))) (aA : α → World → Act) (wA : α → World → World) (hwA : ∀ x W, Below W.heap.size W (wA x W)) (hStA : ∀ x W, St W (wA x W))
    (hVA : ∀ pre hs x W, V pre hs x W → V pre hs x (wA x W))
    (hassign : ∀ (l : Nat) (x : α) (W : World) (K : Act → World → Prop), K (aA x W) (wA x W) →
      assign.wpIn (F.inRound l) (n - 1 - 1) P (Exit.then K (fun _ _ _ => False)) { tmps := (ps.zip (encs x)).foldl (fun t (p, v) => t.setIfInBounds p v) a.tmps, defers := [] } W)
    (hbody : ∀ (l : Nat) (pre : List α) (T : Nat → Prop) (hs : Nat) (x : α) (W0 : World) (r : Loop), I pre T hs W0 → V pre hs x W0 → I pre T hs ((wA x W0).putObj (w.heap.size + 1) (.loop r)) → V pre hs x ((wA x W0).putObj (w.heap.size + 1) (.loop r)) → (∃ r' : Loop, (wA x W0).heap[w.heap.size + 1]? = some (.loop r')) → w.heap.size + 2 ≤ hs → w.heap.size + 2 ≤ W0.heap.size → (∀ k, T k → k < w.heap.size ∨ w.heap.size + 2 ≤ k) →
      body.wpIn (F.inRound l) (n - 1 - 1) P (roundV w.heap.size I Ix (pre ++ [x]) (more T hs W0) ((wA x W0).putObj (w.heap.size + 1) (.loop r))) (aA x W0) ((wA x W0).putObj (w.heap.size + 1) (.loop r)))
    (hdone : ∀ (xs : List α) (T : Nat → Prop) (hs : Nat) (W : World), S xs → I xs T hs W → W.heap[w.heap.size]? = some (.deferred (some [])) → Q .normal { a with defers := { target := .collected w.heap.size, args := #[] } :: a.defers } W)
    (hstop : ∀ (c : Code) (pre : List α) (W : World), Sp pre → Ix c pre W → W.heap[w.heap.size]? = some (.deferred (some [])) → c.wpIn F n P Q { a with defers := { target := .collected w.heap.size, args := #[] } :: a.defers } W) :
    (Code.rangeFunc g ps assign body).wpIn F n P Q a w := by
  refine wpIn_rangeFunc ?_
  intro fn hfn
  rw [hro]
  obtain ⟨rec, hrec⟩ : ∃ rec : LoopState → Option Code → Loop, rec = fun st pe => { state := st, pending := pe, fn, tmps := a.tmps, params := ps, assign, body, defers := w.heap.size } := ⟨_, rfl⟩
  obtain ⟨W1, hW1⟩ : ∃ W1, (w.alloc (.deferred (some []))).alloc (.loop (rec .ready none)) = W1 := ⟨_, rfl⟩
  have hL1 : W1.heap[w.heap.size + 1]? = some (.loop (rec .ready none)) := by
    rw [← hW1]; have := World.alloc_heap_new (w.alloc (.deferred (some []))) (.loop (rec .ready none)); rwa [World.size_alloc] at this
  have hK1 : W1.heap[w.heap.size]? = some (.deferred (some [])) := by
    rw [← hW1]; exact (Below.heap_alloc _ _ _ (by simp)).trans (World.alloc_heap_new w _)
  have hs1 : W1.heap.size = w.heap.size + 2 := by rw [← hW1]; simp
  have hI1 : I [] Mine W1.heap.size W1 := by rw [hs1, ← hW1]; exact h0 _
  have hb1 : Below w0.heap.size w0 W1 := by
    rw [← hW1]; exact hb0.trans ((((Below.refl _ w).alloc (Nat.le_refl _) _).alloc (by simp) _).mono hb0.size)
  refine ⟨w.heap.size + 1, [{ target := .collected w.heap.size, args := #[] }], W1, { target := .fn (.func gf) lb, args := #[.func (.yield (w.heap.size + 1)) #[] #[]] }, W1, gf,
    #[.func (.yield (w.heap.size + 1)) #[] #[]] ++ lb, W1, ?_, ?_, ?_, ?_, fun _ => h1, ?_⟩
  · rw [← hW1, hrec]; exact run_enterLoop_outer _ _ _ _ _
  · simp only [resolve, hg]
    simp [go_sem]
  · intro f' hf'; simp [Target.leads] at hf'; subst hf'; exact hFg
  · simp [invoke, go_sem, eg]
  · refine (hseq (w.heap.size + 1)
      (fun pre T hs W => I pre T hs W ∧ W.heap[w.heap.size + 1]? = some (.loop (rec .ready none)) ∧ W.heap[w.heap.size]? = some (.deferred (some [])) ∧ w.heap.size + 2 ≤ hs ∧ ∀ k, T k → k < w.heap.size ∨ w.heap.size + 2 ≤ k)
      (fun pre W => ∃ c, Ix c pre W ∧ W.heap[w.heap.size + 1]? = some (.loop (rec .done (some c))) ∧ W.heap[w.heap.size]? = some (.deferred (some [])))
      W1 hb1
      (fun pre T hs A B hs' hst => ⟨hI _ _ _ _ _ hs'.1 hst, hSt _ _ hst _ _ hs'.2.1 rfl rfl, hSt _ _ hst _ _ hs'.2.2.1 rfl rfl, hs'.2.2.2.1, hs'.2.2.2.2⟩)
      (fun pre A B hs' hst => by
        obtain ⟨c, hc, hl, hk⟩ := hs'
        exact ⟨c, hIx _ _ _ _ hc hst, hSt _ _ hst _ _ hl rfl rfl, hSt _ _ hst _ _ hk rfl rfl⟩)
      ?_ ⟨hI1, hL1, hK1, by omega, fun k hk => .inl (hMine k hk)⟩).mono ?_
    · -- ONE ROUND
      rintro pre T hs x W ⟨hi, hl, hk, hhs, hT⟩ hv
      have hltW : w.heap.size + 1 < W.heap.size := (Array.getElem?_eq_some_iff.1 hl).1
      have hy := run_yield (P := P) (args := encs x) hl (by rw [hrec]; exact hps x)
      rw [hrec] at hy
      have hbA := hwA x W
      have hiA := hI _ _ _ _ _ hi (hStA x W)
      have hvA := hVA _ _ _ _ hv
      have hlA := (hbA.block _ hltW).trans hl
      have hkA := (hbA.block _ (by omega)).trans hk
      have hsA := hbA.size
      generalize hWA : wA x W = WA at hbA hiA hvA hlA hkA hsA
      have hlt : w.heap.size + 1 < WA.heap.size := by omega
      refine ⟨fn, _, assign, body, hy, roundIn_of_wpIn hfn (hassign _ x W _ ⟨_, run_beginRound (by rw [hWA]; exact hlA) (by rw [hrec]), ?_⟩)⟩
      have hl2 : (WA.putObj (w.heap.size + 1) (.loop { rec .ready none with state := .busy })).heap[w.heap.size + 1]? = some (.loop { rec .ready none with state := .busy }) := World.putObj_heap_same hlt
      have hk2 : (WA.putObj (w.heap.size + 1) (.loop { rec .ready none with state := .busy })).heap[w.heap.size]? = some (.deferred (some [])) := (World.putObj_heap_other (by omega)).trans hkA
      have hnot : ¬ more T hs W (w.heap.size + 1) := by
        rintro (h | h)
        · have := hT _ h; omega
        · omega
      have hT' : ∀ k, more T hs W k → k < w.heap.size ∨ w.heap.size + 2 ≤ k := by
        rintro k (h | h)
        · exact hT k h
        · right; omega
      have hb := hbody (w.heap.size + 1) pre T hs x W { rec .ready none with state := .busy } hi hv (by rw [hWA]; exact hIp _ _ _ _ _ (.loop { rec .ready none with state := .busy }) hiA hlA) (by rw [hWA]; exact hV _ _ _ _ _ _ (.loop { rec .ready none with state := .busy }) hvA hlA) ⟨_, by rw [hWA]; exact hlA⟩ hhs (by omega) hT
      rw [hWA] at hb ⊢
      refine wpIn_mono hb ?_
      have fin : ∀ (jump : Option Code) (W3 : World), KeepsT (fun k => k = w.heap.size ∨ k = w.heap.size + 1) (WA.putObj (w.heap.size + 1) (.loop { rec .ready none with state := .busy })) W3 →
          (Instr.endRound (w.heap.size + 1) jump).run P W3 = .ok (.bool jump.isNone) (W3.putObj (w.heap.size + 1) (.loop (rec (if jump.isNone then .ready else .done) jump))) ∧
          W3.heap[w.heap.size + 1]? = some (.loop { rec .ready none with state := .busy }) ∧
          (W3.putObj (w.heap.size + 1) (.loop (rec (if jump.isNone then .ready else .done) jump))).heap[w.heap.size + 1]? = some (.loop (rec (if jump.isNone then .ready else .done) jump)) ∧
          (W3.putObj (w.heap.size + 1) (.loop (rec (if jump.isNone then .ready else .done) jump))).heap[w.heap.size]? = some (.deferred (some [])) := fun jump W3 hk3 => by
        have hl3 := (hk3.same (w.heap.size + 1) (.inr rfl) (by simp; omega)).trans hl2
        have := run_endRound (P := P) jump hl3
        rw [hrec] at this ⊢
        exact ⟨this, by rw [hrec] at hl3; exact hl3, World.putObj_heap_same (Array.getElem?_eq_some_iff.1 hl3).1, (World.putObj_heap_other (by omega)).trans ((hk3.same w.heap.size (.inl rfl) (by simp; omega)).trans hk2)⟩
      rintro e a3 W3 hp
      cases e with
      | normal =>
        obtain ⟨hk3, hi3⟩ := hp
        obtain ⟨hr, hl3, hl4, hk4⟩ := fin none W3 (hk3.mono (fun k hk => .inr hk))
        refine ⟨_, _, hr, .inl ⟨rfl, ⟨?_, hl4, hk4, ?_, hT'⟩, ?_⟩⟩
        · simp only [World.putObj_size]; exact hIp _ _ _ _ _ _ hi3 hl3
        · have h1 := hk3.size; simp at h1; simp; omega
        · exact (((KeepsT.below hbA).trans (KeepsT.putObj WA _ _ hnot)).trans (hk3.mono (fun k hk => .inl hk))).trans (KeepsT.putObj W3 _ _ hnot)
      | ret =>
        obtain ⟨hk3, hi3⟩ := hp
        obtain ⟨hr, hl3, hl4, hk4⟩ := fin (some .ret) W3 hk3
        exact ⟨_, _, hr, .inr ⟨rfl, .ret, hIxp _ _ _ _ _ hi3 hl3, hl4, hk4⟩⟩
      | exit id =>
        obtain ⟨hk3, hi3⟩ := hp
        obtain ⟨hr, hl3, hl4, hk4⟩ := fin (some (.exit id)) W3 hk3
        exact ⟨_, _, hr, .inr ⟨rfl, .exit id, hIxp _ _ _ _ _ hi3 hl3, hl4, hk4⟩⟩
      | goto t =>
        obtain ⟨hk3, hi3⟩ := hp
        obtain ⟨hr, hl3, hl4, hk4⟩ := fin (some (.goto t)) W3 hk3
        exact ⟨_, _, hr, .inr ⟨rfl, .goto t, hIxp _ _ _ _ _ hi3 hl3, hl4, hk4⟩⟩
      | panic ch => exact hp.elim
      | outgrown => exact hp.elim
    · -- BEHIND THE ITERATOR
      rintro e W2 ⟨⟨v, rfl⟩, (⟨xs, T, hs, hS, hi, hl, hk, _, _⟩ | ⟨pre, hSp, c, hi, hl, hk⟩)⟩
      · exact ⟨none, _, by have := run_endLoop (P := P) hl (by rw [hrec]; simp); rw [hrec] at this; exact this, hdone xs T hs _ hS (hIp _ _ _ _ _ _ hi hl) ((World.putObj_heap_other (by omega)).trans hk)⟩
      · exact ⟨some c, _, by have := run_endLoop (P := P) hl (by rw [hrec]; simp); rw [hrec] at this; exact this, hstop c pre _ hSp (hIxp _ _ _ _ _ hi hl) ((World.putObj_heap_other (by omega)).trans hk)⟩

end Go.Proofs.Ythmockfeffikjaa
