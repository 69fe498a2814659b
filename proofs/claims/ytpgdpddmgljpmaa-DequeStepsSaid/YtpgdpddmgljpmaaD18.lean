/-
  Few operations; the operations of DequeOrder; the last of a thief's answers; the function that says yes.
-/
import Derived.Test.YtpgdpddmgljpmaaD16
import Derived.Test.YtpgdpddmgljpmaaD17
namespace Go.Proofs.Ytpgdpddmgljpmaa
open Go.RowKit
variable {w : World}

theorem foldl_sum : ∀ (l : List Int) (n : Int), 0 ≤ n → (∀ k ∈ l, 0 ≤ k) → n + l.sum ≤ 8192 → l.foldl fewS n = n + l.sum
  | [], n, _, _, _ => by simp
  | a :: b, n, hn, h, hs => by
    have ha := h a (by simp)
    have hb := sum_pos b (fun k hk => h k (by simp [hk]))
    rw [List.sum_cons] at hs
    have e : fewS n a = n + a := by unfold fewS; omega
    rw [List.foldl_cons, e, foldl_sum b (n + a) (by omega) (fun k hk => h k (by simp [hk])) (by omega), List.sum_cons]
    omega
theorem few_small {r : Int} {own : List (Int × Int)} {th : List Int} {m : Nat} (h : newE r own th = 0) (hf : fewB own.length th m = true) : own.length + th.sum ≤ 120 ∧ m ≤ 3000 := by
  obtain ⟨h1, h2, h3, h4, h5, h6⟩ := newE_zero h
  have e : fewN own.length th = own.length + th.sum := by
    unfold fewN
    rw [List.take_of_length_le (by omega), foldl_sum th _ (by omega) h4 (by omega)]
  unfold fewB at hf
  rw [e] at hf
  simp only [Bool.and_eq_true, Bool.or_eq_true, decide_eq_true_eq] at hf
  omega
theorem new_few {r : Int} {own : List (Int × Int)} {th : List Int} {m : Nat} (h : newE r own th = 0) (hf : fewB own.length th m = true) : (∀ x ∈ (newDq r.toNat own th).hs, x.ops.length ≤ 120) ∧ (newDq r.toNat own th).hs.length ≤ 64 ∧ (newDq r.toNat own th).count ≤ 1000 := by
  obtain ⟨h1, h2, h3, h4, h5, h6⟩ := newE_zero h
  have hs := (few_small h hf).1
  have hp := sum_pos th h4
  refine ⟨fun x hx => ?_, by simp [newDq]; omega, by simp [newDq]⟩
  rcases List.mem_cons.1 hx with rfl | hx
  · show own.length ≤ 120; omega
  · obtain ⟨n, hn, rfl⟩ := List.mem_map.1 hx
    show (List.replicate n.toNat ((3 : Int), (0 : Int))).length ≤ 120
    rw [List.length_replicate]
    obtain ⟨j, hj, rfl⟩ := List.mem_iff_getElem.1 hn
    have := sum_takes th h4 (j + 1)
    have := sum_take th j hj
    have := sum_takes th h4 j
    omega

/-- The operations that DequeOrder makes. -/
def ownO (pops : List Bool) (n : Nat) : List (Int × Int) := (List.range n).flatMap (fun i : Nat => (1, (i : Int) + 1) :: if pops.getD (i % pops.length) false then [(2, 0)] else [])
theorem ownO_succ (pops : List Bool) (n : Nat) : ownO pops (n + 1) = ownO pops n ++ ((1, (n : Int) + 1) :: if pops.getD (n % pops.length) false then [(2, 0)] else []) := by
  simp [ownO, List.range_succ]
theorem ownO_len (pops : List Bool) : ∀ n, (ownO pops n).length ≤ 2 * n
  | 0 => by simp [ownO]
  | n + 1 => by
    have := ownO_len pops n
    rw [ownO_succ, List.length_append, List.length_cons]
    have : (if pops.getD (n % pops.length) false then [((2 : Int), (0 : Int))] else []).length ≤ 1 := by split <;> simp
    omega
theorem ownO_rise (pops : List Bool) : ∀ n : Nat, RiseAll (ownO pops n) ∧ ∀ o ∈ ownO pops n, o.1 = 1 → o.2 ≤ n
  | 0 => ⟨⟨List.Pairwise.nil, by simp [ownO]⟩, by simp [ownO]⟩
  | n + 1 => by
    obtain ⟨⟨i1, i2⟩, i3⟩ := ownO_rise pops n
    rw [ownO_succ]
    have hx : ∀ o ∈ ((1, (n : Int) + 1) :: if pops.getD (n % pops.length) false then [((2 : Int), (0 : Int))] else [] : List (Int × Int)), o.1 = 1 → o.2 = n + 1 := by
      intro o ho h1
      rcases List.mem_cons.1 ho with rfl | ho
      · rfl
      · split at ho
        · simp at ho; rw [ho] at h1; cases h1
        · cases ho
    refine ⟨⟨?_, ?_⟩, ?_⟩
    · rw [List.pairwise_append]
      refine ⟨i1, ?_, fun a ha b hb h1 h2 => ?_⟩
      · rw [List.pairwise_cons]
        refine ⟨fun a ha h1 h2 => ?_, ?_⟩
        · split at ha
          · simp at ha; rw [ha] at h2; cases h2
          · cases ha
        · split <;> simp
      · have := i3 a ha h1
        have := hx b hb h2
        omega
    · intro o ho h1
      rcases List.mem_append.1 ho with ho | ho
      · exact i2 o ho h1
      · have := hx o ho h1; omega
    · intro o ho h1
      rcases List.mem_append.1 ho with ho | ho
      · have := i3 o ho h1; omega
      · have := hx o ho h1; omega

/-- The greatest of the values, and 0. -/
def lastO (l : List (Bool × Int)) : Int := l.foldl (fun n a => max n a.2) 0
theorem lastO_snoc (l : List (Bool × Int)) (a : Bool × Int) : lastO (l ++ [a]) = max (lastO l) a.2 := by unfold lastO; rw [List.foldl_append]; rfl
theorem lastO_lt (b : Int) : ∀ (l : List (Bool × Int)) (n : Int), n < b → (∀ a ∈ l, a.2 < b) → l.foldl (fun n a => max n a.2) n < b
  | [], n, h, _ => h
  | a :: l, n, h, hl => by
    have := hl a (by simp)
    exact lastO_lt b l (max n a.2) (by omega) (fun c hc => hl c (by simp [hc]))
theorem lastO_bd (l : List (Bool × Int)) : 0 ≤ lastO l := by
  have : ∀ (l : List (Bool × Int)) (n : Int), n ≤ l.foldl (fun n a => max n a.2) n := by
    intro l
    induction l with
    | nil => intro n; exact Int.le_refl _
    | cons a l ih => intro n; have := ih (max n a.2); rw [List.foldl_cons]; omega
  exact this l 0
theorem ThO.next {C : List Int} {m : Int} {x : Hd} (h : ThO C m x) (k : Nat) (hk : k < x.said.length) (h1 : x.said[k].1 = true) : lastO (x.said.take k) < x.said[k].2 := by
  have e : okvals x.said = okvals (x.said.take k) ++ (x.said[k].2 :: okvals (x.said.drop (k + 1))) := by
    conv => lhs; rw [← List.take_append_drop k x.said, okvals_app]
    congr 1
    unfold okvals
    rw [List.drop_eq_getElem_cons hk, List.filter_cons_of_pos h1, List.map_cons]
  have hup := h.up
  rw [e] at hup
  have hpos : 0 < x.said[k].2 := h.pos _ (by rw [e]; simp)
  refine lastO_lt _ _ _ hpos (fun a ha => ?_)
  cases ha1 : a.1 with
  | true => exact (List.pairwise_append.1 hup).2.2 a.2 (by unfold okvals; exact List.mem_map.2 ⟨a, List.mem_filter.2 ⟨ha, ha1⟩, rfl⟩) _ (by simp)
  | false => rw [h.no a (List.mem_of_mem_take ha) ha1]; exact hpos

theorem yes12 (n : Int) : Calls Try.prog 12 #[.int .i64 n] w fun e w' => e = .returned (.bool true) ∧ w' = w := by
  go_enter Try.func12, Try.ntmps12
  go_wp2
  go_ret
  exact ⟨rfl, rfl⟩
theorem yes30 (n : Int) : Calls Try.prog 30 #[.int .i64 n] w fun e w' => e = .returned (.bool true) ∧ w' = w := by
  go_enter Try.func30, Try.ntmps30
  go_wp2
  go_ret
  exact ⟨rfl, rfl⟩
theorem steady_plain {n0 : Nat} (K : Dq → Prop) : Steady n0 (fun S _ _ => K S) := fun _ _ _ _ _ h _ _ _ _ => h
theorem each_plain {g : Nat} {w0 : World} {d : Nat} {K : Dq → Prop} (hy : ∀ (n : Int) (W : World), Calls Try.prog g #[.int .i64 n] W fun e w' => e = .returned (.bool true) ∧ w' = W)
    (hK : ∀ (S : Dq) (n : Int), K S → S.doneN n = false → K (S.stepN n)) : Each g (fun n => #[.int .i64 n]) w0 d (fun S _ _ => K S) := by
  intro S fp W n _ _ _ _ hw _ _ hb hm hj
  refine (hy n W).mono ?_
  rintro e W' ⟨he, rfl⟩
  refine ⟨he, fp, hm, ?_, hb⟩
  cases hd : S.doneN n with
  | true => rw [stepN_done hd]; exact hj
  | false => exact hK S n hj hd
theorem picks_nat (x : List Int) (h : ∀ n ∈ x, (Lit.int .u8 n).wf = true) : ∃ l : List Nat, l.length = x.length ∧ (∀ n ∈ l, n ≤ 255) ∧ x.map (Value.int .u8) = l.map (fun n : Nat => .int .u8 n) := by
  have h2 : ∀ n ∈ x, 0 ≤ n ∧ n ≤ 255 := fun n hn => by
    have := h n hn
    simp [Lit.wf, IntKind.min, IntKind.max, IntKind.bits, IntKind.signed] at this
    omega
  refine ⟨x.map Int.toNat, by simp, ?_, ?_⟩
  · intro n hn
    obtain ⟨m, hm, rfl⟩ := List.mem_map.1 hn
    have := h2 m hm; omega
  · rw [List.map_map]
    apply List.map_congr_left
    intro n hn
    have := h2 n hn
    show Value.int .u8 n = .int .u8 (n.toNat : Int)
    congr 1; omega
end Go.Proofs.Ytpgdpddmgljpmaa
