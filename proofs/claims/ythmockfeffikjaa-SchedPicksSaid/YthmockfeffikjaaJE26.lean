/-
  Workers that take locks in one order, in plain words: nobody is ever stuck, and all end.
-/
import Derived.Test.YthmockfeffikjaaJE25
namespace Go.Proofs.Ythmockfeffikjaa

theorem picks_keeps {I : SL → Prop} (hI : ∀ S n, I S → I (S.stepN n)) (most : Int) : ∀ (l : List Int) (S : SL) (r : Rn), I S → I (S.picks most l r).1
  | [], S, r, h => h
  | w :: l, S, r, h => by
    show I (if S.canN w = false then SL.picks most l S ⟨r.p, r.s + 1, r.t⟩ else if most ≤ r.p + r.t then (S, r, true) else SL.picks most l (S.stepN w) ⟨r.p + 1, r.s, r.t⟩).1
    split
    · exact picks_keeps hI most l S _ h
    · split
      · exact h
      · exact picks_keeps hI most l _ _ (hI S w h)
theorem turn_keeps {I : SL → Prop} (hI : ∀ S n, I S → I (S.stepN n)) (most : Int) : ∀ (l : List Int) (S : SL) (r : Rn) (mv : Bool), I S → I (S.turn most l r mv).1
  | [], S, r, mv, h => h
  | w :: l, S, r, mv, h => by
    show I (if S.canN w = false then SL.turn most l S r mv else if most ≤ r.p + r.t then (S, r, mv, true) else SL.turn most l (S.stepN w) ⟨r.p, r.s, r.t + 1⟩ true).1
    split
    · exact turn_keeps hI most l S _ _ h
    · split
      · exact h
      · exact turn_keeps hI most l _ _ _ (hI S w h)
theorem tail_keeps {I : SL → Prop} (hI : ∀ S n, I S → I (S.stepN n)) (most : Int) : ∀ (f : Nat) (S : SL) (r : Rn), I S → I (S.tail most f r).1
  | 0, S, r, h => h
  | f + 1, S, r, h => by
    rw [tail_step]
    have ht := turn_keeps hI most (wlist S.work.length 0) S r false h
    split
    · exact h
    · split
      · exact ht
      · split
        · exact ht
        · exact tail_keeps hI most f _ _ ht
theorem run_keeps {I : SL → Prop} (hI : ∀ S n, I S → I (S.stepN n)) (S : SL) (ps : List Int) (most : Int) (h : I S) : I (S.run ps most).1 := by
  unfold SL.run
  have hp := picks_keeps hI most ps S ⟨0, 0, 0⟩ h
  split
  · exact h
  · split
    · exact h
    · generalize S.picks most ps ⟨0, 0, 0⟩ = U at hp
      obtain ⟨a, b, d⟩ := U
      cases d
      · exact tail_keeps hI most _ _ _ hp
      · exact hp

def lk (h : Int) : Ce := ⟨2, 0, h, 0, [], 0, false⟩
theorem isW_ne {w : Int} (h : isW w = true) : 0 ≤ w ∧ w < 64 := by simpa [isW] using h
theorem isW_of {w : Int} (h0 : 0 ≤ w) (h1 : w < 64) : isW w = true := by simp [isW, h0, h1]
theorem lk_ok {h : Int} (hh : h = -1 ∨ isW h = true) : okP (lk h) = true := by
  rcases hh with rfl | hh
  · decide
  · simp [okP, lk, hh]
theorem lk_take {w : Int} {a : Ac} (hw : isW w = true) (ha : a.kind = 3) : oneP (lk (-1)) w a = (lk w, 0, 0) := by
  have h := isW_ne hw
  unfold oneP
  rw [if_neg (by rw [lk_ok (.inl rfl)]; decide), if_neg (by rw [hw]; decide)]
  simp [stepP, lk, ha, show ¬ (-1 : Int) = w by omega]
theorem lk_wait {h w : Int} {a : Ac} (hw : isW w = true) (hh : isW h = true) (hne : h ≠ w) (ha : a.kind = 3) : (oneP (lk h) w a).2.2 = 231 := by
  have h1 := isW_ne hh
  unfold oneP
  rw [if_neg (by rw [lk_ok (.inr hh)]; decide), if_neg (by rw [hw]; decide)]
  simp [stepP, lk, ha, hne, show ¬ h = (-1 : Int) by omega]
theorem lk_give {w : Int} {a : Ac} (hw : isW w = true) (ha : a.kind = 4) : oneP (lk w) w a = (lk (-1), 0, 0) := by
  unfold oneP
  rw [if_neg (by rw [lk_ok (.inr hw)]; decide), if_neg (by rw [hw]; decide)]
  simp [stepP, lk, ha]

/-- What is left for one who holds the locks h: it takes none below one that it holds, and gives back all. -/
def Fit (n : Nat) : (Nat → Prop) → List Ac → Prop
  | h, [] => ∀ j, ¬ h j
  | h, a :: r => ∃ k : Nat, k < n ∧ a.cell = k ∧ ((a.kind = 3 ∧ (∀ j, h j → j < k) ∧ Fit n (fun j => h j ∨ j = k) r) ∨ (a.kind = 4 ∧ h k ∧ Fit n (fun j => h j ∧ j ≠ k) r))
theorem Fit.same {n : Nat} {h h' : Nat → Prop} {l : List Ac} (hf : Fit n h l) (he : ∀ j, h j ↔ h' j) : Fit n h' l := by
  have : h = h' := funext fun j => propext (he j)
  rw [← this]; exact hf
def lockA (k : Nat) : Ac := ⟨3, k, 0, 0⟩
def freeA (k : Nat) : Ac := ⟨4, k, 0, 0⟩
def locks (n k : Nat) : List Ac := (List.range' k (n - k)).map lockA
def frees (n k : Nat) : List Ac := (List.range' k (n - k)).map freeA
theorem locks_end {n k : Nat} (h : n ≤ k) : locks n k = [] := by unfold locks; rw [show n - k = 0 by omega]; rfl
theorem locks_cons {n k : Nat} (h : k < n) : locks n k = lockA k :: locks n (k + 1) := by unfold locks; rw [show n - k = (n - (k + 1)) + 1 by omega, List.range'_succ]; rfl
theorem frees_end {n k : Nat} (h : n ≤ k) : frees n k = [] := by unfold frees; rw [show n - k = 0 by omega]; rfl
theorem frees_cons {n k : Nat} (h : k < n) : frees n k = freeA k :: frees n (k + 1) := by unfold frees; rw [show n - k = (n - (k + 1)) + 1 by omega, List.range'_succ]; rfl
theorem fit_frees {n : Nat} {r : List Ac} (hr : Fit n (fun _ => False) r) : ∀ (m k : Nat), n - k = m → Fit n (fun j => k ≤ j ∧ j < n) (frees n k ++ r)
  | 0, k, h => by
    rw [frees_end (by omega)]
    exact hr.same (fun j => ⟨False.elim, fun h => by omega⟩)
  | m + 1, k, h => by
    rw [frees_cons (by omega)]
    refine ⟨k, by omega, rfl, .inr ⟨rfl, ⟨Nat.le_refl _, by omega⟩, (fit_frees hr m (k + 1) (by omega)).same fun j => ⟨fun h => ⟨⟨by omega, h.2⟩, by omega⟩, fun h => ?_⟩⟩⟩
    obtain ⟨⟨h1, h2⟩, h3⟩ := h
    omega
theorem fit_locks {n f : Nat} {r : List Ac} (hr : Fit n (fun _ => False) r) : ∀ (m k : Nat), n - k = m → f ≤ k → k ≤ n → Fit n (fun j => f ≤ j ∧ j < k) (locks n k ++ (frees n f ++ r))
  | 0, k, h, _, hk => by
    obtain rfl : k = n := by omega
    rw [locks_end (Nat.le_refl _)]
    exact fit_frees hr _ f rfl
  | m + 1, k, h, hf, hk => by
    rw [locks_cons (by omega)]
    refine ⟨k, by omega, rfl, .inl ⟨rfl, fun j h => h.2, (fit_locks hr m (k + 1) (by omega) (by omega) (by omega)).same fun j => ⟨fun h => ?_, fun h => ?_⟩⟩⟩
    · omega
    · rcases h with h | h <;> omega
/-- What one byte of a worker's list comes to. -/
def chunk (n f : Nat) : List Ac := locks n f ++ frees n f
theorem chunk_len (n f : Nat) : (chunk n f).length = 2 * (n - f) := by simp [chunk, locks, frees]; omega
def accs (n : Nat) (l : List Nat) : List Ac := l.flatMap (fun x => chunk n (x % n))
theorem fit_accs {n : Nat} (hn : 0 < n) : ∀ l : List Nat, Fit n (fun _ => False) (accs n l)
  | [] => fun j h => h
  | x :: l => by
    show Fit n _ (chunk n (x % n) ++ accs n l)
    unfold chunk
    rw [List.append_assoc]
    have hx := Nat.mod_lt x hn
    exact (fit_locks (fit_accs hn l) _ (x % n) rfl (Nat.le_refl _) (by omega)).same fun j => ⟨fun h => by omega, False.elim⟩

/-- What holds all along: who holds which lock, and what is left for each. -/
structure EInv (n : Nat) (S : SL) : Prop where
  len : S.said.length = S.work.length
  b : S.work.length ≤ 64
  own : ∃ o : Nat → Int, S.mem.cs = (List.range n).map (fun j => lk (o j)) ∧ (∀ j, j < n → o j = -1 ∨ 0 ≤ o j ∧ o j < S.work.length) ∧ ∀ w : Nat, w < S.work.length → Fit n (fun j => j < n ∧ o j = (w : Int)) ((S.work.getD w []).drop (S.said.getD w []).length)
theorem EInv.start {n : Nat} {work : List (List Ac)} (h64 : work.length ≤ 64) (hf : ∀ l ∈ work, Fit n (fun _ => False) l) : EInv n (nl0 (List.replicate n (lk (-1))) work) := by
  refine ⟨by simp [nl0], h64, fun _ => -1, by simp [nl0, List.map_const'], fun _ _ => .inl rfl, fun w hw => ?_⟩
  have hw : w < work.length := hw
  have e1 : (nl0 (List.replicate n (lk (-1))) work).work.getD w [] = work[w] := by simp [nl0, List.getD_eq_getElem?_getD, hw]
  have e2 : (nl0 (List.replicate n (lk (-1))) work).said.getD w [] = [] := by simp [nl0, List.getD_eq_getElem?_getD, hw]
  rw [e1, e2]
  exact (hf _ (List.getElem_mem hw)).same fun j => ⟨False.elim, fun h => by have h2 : (-1 : Int) = (w : Int) := h.2; omega⟩

theorem next_drop {S : SL} {m : Int} {a : Ac} (h : S.next m = some a) : ∃ w : Nat, m = (w : Int) ∧ w < S.work.length ∧ (S.work.getD w []).drop (S.said.getD w []).length = a :: (S.work.getD w []).drop ((S.said.getD w []).length + 1) := by
  unfold SL.next at h
  by_cases h2 : 0 ≤ m ∧ m < S.work.length
  · rw [if_pos h2] at h
    refine ⟨m.toNat, by omega, by omega, ?_⟩
    obtain ⟨hl, he⟩ := List.getElem?_eq_some_iff.1 h
    rw [List.drop_eq_getElem_cons hl, he]
  · rw [if_neg h2] at h; cases h
theorem next_none {S : SL} {w : Nat} (h : S.next w = none) (hw : w < S.work.length) : (S.work.getD w []).drop (S.said.getD w []).length = [] := by
  unfold SL.next at h
  rw [if_pos (by omega), Int.toNat_natCast] at h
  exact List.drop_eq_nil_of_le (List.getElem?_eq_none_iff.1 h)
theorem look_lk {S : SL} {n k : Nat} {o : Nat → Int} {m : Int} {a : Ac} (hc : S.mem.cs = (List.range n).map (fun j => lk (o j))) (hk : k < n) (ha : a.cell = k) : S.mem.look m a = oneP (lk (o k)) m a := by
  unfold Mem.look
  rw [hc, ha]
  rw [if_neg (by simp; omega)]
  simp [List.getD_eq_getElem?_getD, hk]
theorem range_set {n k : Nat} {o : Nat → Int} {v : Int} (hk : k < n) : ((List.range n).map (fun j => lk (o j))).set k (lk v) = (List.range n).map (fun j => lk (if j = k then v else o j)) := by
  refine List.ext_getElem (by simp) fun i h1 h2 => ?_
  rw [List.getElem_set]
  simp only [List.getElem_map, List.getElem_range]
  by_cases h : k = i
  · subst h; simp
  · rw [if_neg h, if_neg (by omega)]
theorem EInv.step {n : Nat} {S : SL} (m : Int) (H : EInv n S) : EInv n (S.stepN m) := by
  cases hx : S.next m with
  | none =>
    have e : S.stepN m = S := by unfold SL.stepN; rw [hx]
    rw [e]; exact H
  | some a =>
    obtain ⟨w, rfl, hw, hd⟩ := next_drop hx
    obtain ⟨o, hc, ho, hF⟩ := H.own
    have hb := H.b
    have hfw := hF w hw
    rw [hd] at hfw
    obtain ⟨k, hk, hak, hcase⟩ := hfw
    have hlook := look_lk (m := (w : Int)) hc hk hak
    have hW : isW (w : Int) = true := isW_of (by omega) (by omega)
    -- a step that turns lock k over to v
    have go : ∀ v : Int, (v = -1 ∨ v = (w : Int)) → (o k = -1 ∨ o k = (w : Int)) → S.mem.look w a = (lk v, 0, 0) → Fit n (fun j => j < n ∧ (if j = k then v else o j) = (w : Int)) ((S.work.getD w []).drop ((S.said.getD w []).length + 1)) → EInv n (S.stepN w) := by
      intro v hv hok hl hfit
      have ht : S.mem.tell w a = (0, 0) := by unfold Mem.tell; rw [hl]; rfl
      have hs : S.mem.step w a = ⟨S.mem.cs.set k (lk v), IntKind.i64.wrap (S.mem.steps + 1)⟩ := by unfold Mem.step; rw [hl, hak]; simp
      have e : S.stepN w = ⟨⟨S.mem.cs.set k (lk v), IntKind.i64.wrap (S.mem.steps + 1)⟩, S.work, S.said.set w (S.said.getD w [] ++ [(0, 0)])⟩ := by
        unfold SL.stepN
        rw [hx]
        simp only [ht, hs, Int.toNat_natCast]
        rfl
      rw [e]
      refine ⟨by simp only [List.length_set]; exact H.len, H.b, fun j => if j = k then v else o j, by show S.mem.cs.set k (lk v) = _; rw [hc]; exact range_set hk, fun j hj => ?_, fun w' hw' => ?_⟩
      · show (if j = k then v else o j) = -1 ∨ _
        by_cases hjk : j = k
        · simp only [hjk, if_true]
          rcases hv with h | h
          · exact .inl h
          · exact .inr ⟨by omega, by show v < (S.work.length : Int); omega⟩
        · simp only [hjk, if_false]
          exact ho j hj
      · have hw' : w' < S.work.length := hw'
        have hl2 : w < S.said.length := by rw [H.len]; exact hw
        by_cases hww : w' = w
        · subst hww
          show Fit n _ ((S.work.getD w' []).drop ((S.said.set w' (S.said.getD w' [] ++ [(0, 0)])).getD w' []).length)
          have e2 : ((S.said.set w' (S.said.getD w' [] ++ [((0 : Int), (0 : Int))])).getD w' []).length = (S.said.getD w' []).length + 1 := by simp [List.getD_eq_getElem?_getD, hl2]
          rw [e2]
          exact hfit
        · show Fit n _ ((S.work.getD w' []).drop ((S.said.set w (S.said.getD w [] ++ [(0, 0)])).getD w' []).length)
          have e2 : (S.said.set w (S.said.getD w [] ++ [((0 : Int), (0 : Int))])).getD w' [] = S.said.getD w' [] := by simp [List.getD_eq_getElem?_getD, List.getElem?_set, Ne.symm hww]
          rw [e2]
          refine (hF w' hw').same fun j => ?_
          by_cases hjk : j = k
          · subst hjk
            simp only [if_true]
            constructor
            · intro h; omega
            · intro h; omega
          · simp only [hjk, if_false]
    rcases hcase with ⟨h3, hlt, hfit⟩ | ⟨h4, ⟨_, hok⟩, hfit⟩
    · rcases ho k hk with hm | ⟨hm0, hm1⟩
      · refine go w (.inr rfl) (.inl hm) (by rw [hlook, hm]; exact lk_take hW h3) (hfit.same fun j => ?_)
        by_cases hjk : j = k
        · subst hjk; simp; exact hk
        · simp [hjk]
      · have hne : o k ≠ (w : Int) := fun e => by have := hlt k ⟨hk, e⟩; omega
        have e : S.stepN w = S := by
          unfold SL.stepN
          rw [hx]
          have ht : (S.mem.tell w a).2 = 231 := by
            have h2 : (S.mem.look w a).2.2 = 231 := by rw [hlook]; exact lk_wait hW (isW_of hm0 (by omega)) hne h3
            unfold Mem.tell
            rw [if_neg (by rw [h2]; decide)]
            exact h2
          simp only [ht, if_true]
        rw [e]; exact H
    · refine go (-1) (.inl rfl) (.inr hok) (by rw [hlook, hok]; exact lk_give hW h4) (hfit.same fun j => ?_)
      by_cases hjk : j = k
      · subst hjk; simp
      · simp [hjk]

theorem enab_all {S : SL} (h : S.enab = []) (w : Nat) (hw : w < S.work.length) : S.canN w = false := by
  unfold SL.enab SL.enabTo at h
  rw [List.map_eq_nil_iff, List.filter_eq_nil_iff] at h
  have := h w (List.mem_range.2 hw)
  simpa using this
/-- Nobody waits for a lock. -/
theorem EInv.none {n : Nat} {S : SL} (H : EInv n S) (he : S.enab = []) : ∀ (d w : Nat) (a : Ac), w < S.work.length → S.next w = some a → (n : Int) - a.cell ≤ d → False
  | d, w, a, hw, hx, hd => by
    obtain ⟨o, hc, ho, hF⟩ := H.own
    have hb := H.b
    obtain ⟨w2, e, _, hdr⟩ := next_drop hx
    obtain rfl : w = w2 := by omega
    have hfw := hF w hw
    rw [hdr] at hfw
    obtain ⟨k, hk, hak, hcase⟩ := hfw
    have hlook := look_lk (m := (w : Int)) hc hk hak
    have hW : isW (w : Int) = true := isW_of (by omega) (by omega)
    have hcan := enab_all he w hw
    have hdn : S.doneN w = false := by unfold SL.doneN; rw [hx]; rfl
    have hwt : S.waitsN w = true := by
      unfold SL.canN at hcan
      rw [hdn] at hcan
      simpa using hcan
    have h231 : (S.mem.look w a).2.2 = 231 := by
      unfold SL.waitsN at hwt
      rw [hx] at hwt
      simpa using hwt
    rw [hlook] at h231
    rcases hcase with ⟨h3, hlt, _⟩ | ⟨h4, ⟨_, hok⟩, _⟩
    · rcases ho k hk with hm | ⟨hm0, hm1⟩
      · rw [hm, lk_take hW h3] at h231
        cases h231
      · obtain ⟨w', hw'⟩ : ∃ w' : Nat, o k = (w' : Int) := ⟨(o k).toNat, by omega⟩
        have hwl : w' < S.work.length := by omega
        have hf2 := hF w' hwl
        cases hx2 : S.next w' with
        | none =>
          rw [next_none hx2 hwl] at hf2
          exact hf2 k ⟨hk, hw'⟩
        | some a2 =>
          obtain ⟨w3, e3, _, hdr2⟩ := next_drop hx2
          obtain rfl : w' = w3 := by omega
          rw [hdr2] at hf2
          obtain ⟨k2, hk2, hak2, hcase2⟩ := hf2
          rcases hcase2 with ⟨_, hlt2, _⟩ | ⟨h4, ⟨_, hok2⟩, _⟩
          · have := hlt2 k ⟨hk, hw'⟩
            match d with
            | 0 => omega
            | d + 1 => exact H.none he d w' a2 hwl hx2 (by omega)
          · have hlook2 := look_lk (m := (w' : Int)) hc hk2 hak2
            have hcan2 := enab_all he w' hwl
            have hdn2 : S.doneN w' = false := by unfold SL.doneN; rw [hx2]; rfl
            have hwt2 : S.waitsN w' = true := by
              unfold SL.canN at hcan2
              rw [hdn2] at hcan2
              simpa using hcan2
            unfold SL.waitsN at hwt2
            rw [hx2] at hwt2
            simp only [beq_iff_eq] at hwt2
            rw [hlook2, hok2, lk_give (isW_of (by omega) (by omega)) h4] at hwt2
            cases hwt2
    · rw [hok, lk_give hW h4] at h231
      cases h231
theorem EInv.fin {n : Nat} {S : SL} (H : EInv n S) (he : S.enab = []) : S.finN = true := by
  unfold SL.finN
  refine List.all_eq_true.2 fun w hw => ?_
  have hw : w < S.work.length := by simpa using hw
  cases hx : S.next w with
  | none => unfold SL.doneN; rw [hx]; rfl
  | some a => 
    obtain ⟨o, hc, ho, hF⟩ := H.own
    obtain ⟨w2, e, _, hdr⟩ := next_drop hx
    obtain rfl : w = w2 := by omega
    have hfw := hF w hw
    rw [hdr] at hfw
    obtain ⟨k, hk, hak, _⟩ := hfw
    exact (H.none he n w a hw hx (by omega)).elim
theorem leftL_zero : ∀ (ws : List (List Ac)) (ss : List (List (Int × Int))), (∀ w, w < ws.length → (ws.getD w []).length ≤ (ss.getD w []).length) → leftL ws ss = 0
  | [], _, _ => by unfold leftL; rfl
  | w :: ws, [], _ => by unfold leftL; rfl
  | w :: ws, s :: ss, h => by
    have h0 := h 0 (by simp)
    have ih := leftL_zero ws ss (fun k hk => by have := h (k + 1) (by simpa using hk); simpa using this)
    simp only [leftL, ih]
    simp at h0
    omega
theorem fin_left {S : SL} (h : S.finN = true) : S.left = 0 := by
  refine leftL_zero _ _ fun w hw => ?_
  have h1 := List.all_eq_true.1 h w (by simpa using hw)
  unfold SL.doneN SL.next at h1
  rw [if_pos (by omega), Int.toNat_natCast] at h1
  have h2 : (S.work.getD w [])[(S.said.getD w []).length]? = none := by simpa using h1
  exact List.getElem?_eq_none_iff.1 h2

/-- All end, in as many steps as there are accesses. -/
theorem ends_run {n : Nat} (hn : 0 < n) (ls : List (List Nat)) (h64 : ls.length ≤ 64) (ps : List Int) (hps : ps.length ≤ 65536) (hT : totW (ls.map (accs n)) ≤ 1099511627776) :
    ((nl0 (List.replicate n (lk (-1))) (ls.map (accs n))).run ps (totW (ls.map (accs n)))).2.2 = 0 ∧
    ((nl0 (List.replicate n (lk (-1))) (ls.map (accs n))).run ps (totW (ls.map (accs n)))).1.finN = true ∧
    ((nl0 (List.replicate n (lk (-1))) (ls.map (accs n))).run ps (totW (ls.map (accs n)))).2.1.p + ((nl0 (List.replicate n (lk (-1))) (ls.map (accs n))).run ps (totW (ls.map (accs n)))).2.1.t = totW (ls.map (accs n)) ∧
    ((nl0 (List.replicate n (lk (-1))) (ls.map (accs n))).run ps (totW (ls.map (accs n)))).2.1.p + ((nl0 (List.replicate n (lk (-1))) (ls.map (accs n))).run ps (totW (ls.map (accs n)))).2.1.s = ps.length := by
  have hi := run_keeps (I := EInv n) (fun S m h => h.step m) (nl0 (List.replicate n (lk (-1))) (ls.map (accs n))) ps (totW (ls.map (accs n))) (EInv.start (by simpa using h64) (fun l hl => by
    obtain ⟨x, _, rfl⟩ := List.mem_map.1 hl
    exact fit_accs hn x))
  have hw := run_went (nl0 (List.replicate n (lk (-1))) (ls.map (accs n))) ps (totW (ls.map (accs n))) hps (by omega) (by omega) (nl0_len _ _) (by rw [nl0_left]; omega)
  rw [nl0_left] at hw
  generalize (nl0 (List.replicate n (lk (-1))) (ls.map (accs n))).run ps (totW (ls.map (accs n))) = T at hi hw ⊢
  obtain ⟨S', ⟨p, s, t⟩, c⟩ := T
  obtain ⟨g1, g2, g3, g4, g5, g6, g7⟩ := hw
  dsimp only at g1 g2 g3 g4 g5 g6 g7 hi ⊢
  have hf := hi.fin g6
  have hl := fin_left hf
  refine ⟨?_, hf, by omega, g5⟩
  rcases g7 with h | h
  · exact h.1
  · rw [hf] at h; cases h.2
theorem ends_new {n : Nat} (hn : n ≤ 4) {work : List (List Ac)} (h1 : 1 ≤ work.length) (h64 : work.length ≤ 64) : nlE (List.replicate n (lk (-1))) work = 0 := by
  have e : newE (List.replicate n (lk (-1))) = 0 := by
    unfold newE
    rw [if_neg (by simp; omega), if_pos]
    refine List.all_eq_true.2 fun x hx => ?_
    rw [List.eq_of_mem_replicate hx]
    exact lk_ok (.inl rfl)
  unfold nlE
  rw [if_neg (by rw [e]; decide), if_neg (by omega)]
end Go.Proofs.Ythmockfeffikjaa
