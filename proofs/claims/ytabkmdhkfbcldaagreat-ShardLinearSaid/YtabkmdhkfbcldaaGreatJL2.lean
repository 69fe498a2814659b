/-
 Append and make at the operation, within a fence.
 A name's hash and its shard: the code's, the document's.
 Integers in rows.
 Cells as the walks have them, and what is made of them, in plain words.
 The walks of slices.Index and slices.Contains at slices of int.
 The walks of gate, the program's and the document's, and what they call.
 The walk of the document's gate.
 The walk of slices.Clone at slices of int.
 The walks of copied and of the document's Clone.
 The walk of slices.Equal at slices of int.
 The walks of Same, the program's and the document's.
 The walks of Check, the program's and the document's.
 The walk of the document's Check.
 The walks of number, lock and future: an access to a cell in memory of its own.
 The walks of lock and future.
 The walk of barrier.
-/
import Derived.OwnWalkIn
import Derived.Laws.AppendOwnNone
import Derived.Test.YtabkmdhkfbcldaaGreatJL1
import Derived.Test.YtabkmdhkfbcldaaGreatProg
import Derived.IntWalk
import Derived.Test.YtabkmdhkfbcldaaGreatJL0
import Derived.Test.YtabkmdhkfbcldaaGreatRows
import Derived.Lib.SliceRun
namespace Go.Proofs.YtabkmdhkfbcldaaGreat
open Go.RowKit
variable {P : Program} {w : World} {t e : TypeId} {size bytes : Nat} {z : Value} {ops : Array Oper} {rest : List Oper} {o : Oper} {a : Act} {Q : Exit → Act → World → Prop}
theorem operIn_app {K : Act → World → Prop} {F : Fence} {fn : Nat} (E : Elem P t e size bytes z) (s x : Operand)
  (ho : o.op = .call { callee := .builtin .append, args := #[s, x], argTypes := #[t, t] })
  (base : Nat) (v : Value) (n : Nat) (xs : List Value) (hs : a.eval s = v) (hown : w.ownsRow base e size v n xs)
  (p : Option Addr) (m c : Nat) (news : List Value) (hx : a.eval x = .slice p m c) (hl : news.length = m * size) (hnil : p = none → c = 0) (hrow : Row w p news) (h1 : ∀ u ∈ news, u.oneCell' = true)
  (h63 : n + m ≤ maxLen) (hbytes : (n + m) * bytes ≤ 140737488355328) (hbase : base ≤ w.heap.size)
  (h : ∀ v' w', w'.ownsRow base e size v' (n + m) (xs ++ news) → w.grownBy w' v.ownBlock → Stayed w v v' → K (a.put o.dst v') w') : Oper.wpIn F fn P o a w K Q := by
 obtain ⟨i, hi, hz, hsz, hby⟩ := E.info
 cases p with
 | none =>
  have hc : c = 0 := hnil rfl
  subst hc
  have hn : news = [] := by
   apply Classical.byContradiction
   intro hne
   obtain ⟨b, o, e1, _⟩ := hrow hne
   cases e1
  subst hn
  have hm : m = 0 := by
   have := E.pos
   have hl' : 0 = m * size := hl
   rcases Nat.mul_eq_zero.1 hl'.symm with h0 | h0
   ·exact h0
   ·omega
  subst hm
  have hr := run_append_owned_none (P := P) (w := w) base t o.type e i size E.desc hi v n xs hown
  unfold Oper.wpIn
  refine ⟨?_, ?_⟩
  ·simp [Oper.about, ho, resolve, Target.leads, Sem.run_pure]
  ·rw [Oper.semAt_plain F _ _ (by rw [ho]; intro c hc'; cases hc')]
   simp [execOp, ho, resolve, invoke, builtin, hs, hx, hr, Result.andThen]
   exact (h v w (by simpa using hown) (World.grownBy.refl _ _) (fun g hg => .inl hg))
 | some ad =>
  have hnews : ∀ j u, news[j]? = some u → w.cell? (ad.add j) = some u := by
   intro j u hj
   have hjl : j < news.length := (List.getElem?_eq_some_iff.1 hj).1
   obtain ⟨b, o, e1, hc⟩ := hrow (by intro e1; rw [e1] at hjl; simp at hjl)
   cases e1
   rw [addr_add, hc j hjl]
   rw [List.getElem?_eq_getElem hjl] at hj
   exact hj
  obtain ⟨v', w', hr, h2, h3, _⟩ := run_append_own (P := P) w base t o.type e i z size bytes E.desc hi hz hsz hby E.cells E.pos v n xs hown ad m c news hl hnews h1 h63 hbytes hbase
  have h4 := app_stayed E o.type base v n xs hown ad m c news hl hnews h1 h63 hbytes hr
  unfold Oper.wpIn
  refine ⟨?_, ?_⟩
  ·simp [Oper.about, ho, resolve, Target.leads, Sem.run_pure]
  ·rw [Oper.semAt_plain F _ _ (by rw [ho]; intro c hc'; cases hc')]
   simp [execOp, ho, resolve, invoke, builtin, hs, hx, hr, Result.andThen]
   exact (h v' w' h2 h3 h4)
theorem wpListIn_app {F : Fence} {fn : Nat} (E : Elem P t e size bytes z) (hgd : o.guard = none) (s x : Operand)
  (ho : o.op = .call { callee := .builtin .append, args := #[s, x], argTypes := #[t, t] })
  (base : Nat) (v : Value) (n : Nat) (xs : List Value) (hs : a.eval s = v) (hown : w.ownsRow base e size v n xs)
  (p : Option Addr) (m c : Nat) (news : List Value) (hx : a.eval x = .slice p m c) (hl : news.length = m * size) (hnil : p = none → c = 0) (hrow : Row w p news) (h1 : ∀ u ∈ news, u.oneCell' = true)
  (h63 : n + m ≤ maxLen) (hbytes : (n + m) * bytes ≤ 140737488355328) (hbase : base ≤ w.heap.size)
  (h : ∀ v' w', w'.ownsRow base e size v' (n + m) (xs ++ news) → w.grownBy w' v.ownBlock → Stayed w v v' → wpListIn F fn P ops Q rest (a.put o.dst v') w') : wpListIn F fn P ops Q (o :: rest) a w :=
 wpListIn_plain hgd fun K hK => operIn_app E s x ho base v n xs hs hown p m c news hx hl hnil hrow h1 h63 hbytes hbase (fun v' w' a b c => hK _ _ (h v' w' a b c))
theorem own_nilcap {w : World} {base : Nat} {e : TypeId} {size : Nat} {p : Option Addr} {n m c : Nat} {xs : List Value} (h : w.ownsRow base e size (.slice p m c) n xs) : p = none → c = 0 := by
 intro hp
 subst hp
 rcases h.2 with ⟨hv, _⟩ | ⟨g, cap, cur, hv, _⟩
 ·cases hv; rfl
 ·cases hv
end Go.Proofs.YtabkmdhkfbcldaaGreat
namespace Go.Proofs.YtabkmdhkfbcldaaGreat
open Go.RowKit
def hashStep (h : Int) (b : UInt8) : Int := IntKind.u64.wrap (bits BinOp.xor IntKind.u64 h (IntKind.u64.wrap (b.toNat : Int)) * 1099511628211)
def hashTo (s : ByteArray) (k : Nat) : Int := (s.data.toList.take k).foldl hashStep 14695981039346656037
def hashF (s : ByteArray) : Int := hashTo s s.size
theorem hash_succ (s : ByteArray) (k : Nat) (h : k < s.size) : hashTo s (k + 1) = hashStep (hashTo s k) s[k] := by
 unfold hashTo
 have hl : k < s.data.toList.length := by simpa using h
 rw [List.take_add_one, List.getElem?_eq_getElem hl, Option.toList_some, List.foldl_append]
 rfl
theorem wrap_u64 (x : Int) : 0 ≤ IntKind.u64.wrap x ∧ IntKind.u64.wrap x < 18446744073709551616 := by
 simp only [IntKind.wrap, IntKind.bits, IntKind.signed]
 simp
 omega
theorem hash_in (s : ByteArray) (k : Nat) : 0 ≤ hashTo s k ∧ hashTo s k < 18446744073709551616 := by
 unfold hashTo
 rcases List.eq_nil_or_concat (s.data.toList.take k) with h | ⟨l, a, h⟩
 ·rw [h]; decide
 ·rw [h, List.concat_eq_append, List.foldl_append]; exact wrap_u64 _
def ofF (s : ByteArray) (n : Int) : Int := if n < 1 then 0 else hashF s % n
set_option maxRecDepth 20000 in
theorem hash_any (s : ByteArray) (w : World) (hs : s.size ≤ 1000000000000000) : Calls Tryz.prog 16 #[.string s] w fun e w' => e = .returned (.int .u64 (hashF s)) ∧ w' = w := by
 have H0 : Hid (hashTo s 0 = 14695981039346656037) := rfl
 have HS := hid (hash_succ s)
 unfold hashF
 go_enter Tryz.func16, Tryz.ntmps16
 go_wp2
 go_loopw [3, 7] (fun h i wr => ∃ k : Nat, k ≤ s.size ∧ i = .int .i64 k ∧ h = .int .u64 (hashTo s k) ∧ wr = w) (fun _ i _ => s.size - (intOf i).toNat)
 case atStart => exact ⟨0, Nat.zero_le _, rfl, by rw [H0.out], rfl⟩
 case round =>
  obtain ⟨k, hk, rfl, rfl, rfl⟩ := hrel
  by_cases hlt : k < s.size
  ·have HE := hid (HS.out k hlt)
   generalize hashTo s k = h at *
   go_wp2
   exact ⟨⟨k + 1, by omega, by go_num, by rw [HE.out]; rfl, trivial⟩, by simp [intOf]; omega⟩
  ·have hke : k = s.size := by omega
   subst hke
   go_wp2
   go_ret
   exact ⟨rfl, rfl⟩
theorem of_facts {h n : Int} (h0 : 0 ≤ h ∧ h < 18446744073709551616) (h1 : 1 ≤ n) (h2 : n ≤ 9223372036854775807) : IntKind.u64.wrap n = n ∧ IntKind.i64.wrap (h % n) = h % n ∧ 0 ≤ h % n ∧ h % n < n := by
 have a := Int.emod_nonneg h (b := n) (by omega)
 have b := Int.emod_lt_of_pos h (b := n) (by omega)
 refine ⟨?_, IntWalk.i64_in _ (by omega), a, b⟩
 simp only [IntKind.wrap, IntKind.bits, IntKind.signed]
 simp
 omega
set_option maxRecDepth 20000 in
theorem of_any (s : ByteArray) (n : Int) (w : World) (hs : s.size ≤ 1000000000000000) (hn : -9223372036854775808 ≤ n ∧ n ≤ 9223372036854775807) : Calls Tryz.prog 43 #[.string s, .int .i64 n] w fun e w' => e = .returned (.int .i64 (ofF s n)) ∧ w' = w := by
 have HH := hid (hash_any s w hs)
 have HI : Hid (0 ≤ hashF s ∧ hashF s < 18446744073709551616) := hash_in s s.size
 unfold ofF
 generalize hashF s = h at *
 by_cases h1 : n < 1
 ·rw [if_pos h1]
  go_enter Tryz.func43, Tryz.ntmps43
  go_wp2
  go_ret
  exact ⟨rfl, rfl⟩
 ·rw [if_neg h1]
  obtain ⟨f1, f2, f3, f4⟩ := of_facts HI.out (n := n) (by omega) hn.2
  go_enter Tryz.func43, Tryz.ntmps43
  go_wp2_with (go_at_call 16; (with_reducible refine HH.out.mono ?_); rintro e w1 ⟨rfl, rfl⟩)
  go_ret
  exact ⟨ret_int (by rw [Int.tmod_eq_emod_of_nonneg HI.out.1, ← IntWalk.i64_left]; exact f2), rfl⟩
end Go.Proofs.YtabkmdhkfbcldaaGreat
namespace Go.Proofs.YtabkmdhkfbcldaaGreat
open Go.RowKit
abbrev i64 (n : Int) : Value := .int .i64 n
abbrev i64s (l : List Int) : List Value := l.map (Value.int .i64)
def inI64 (n : Int) : Prop := -9223372036854775808 ≤ n ∧ n ≤ 9223372036854775807
theorem wf_i64 {n : Int} (h : (Lit.int .i64 n).wf = true) : inI64 n := by
 simp [Lit.wf, IntKind.min, IntKind.max, IntKind.bits, IntKind.signed] at h
 simp only [inI64]
 omega
theorem ints_one (l : List Int) : ∀ u ∈ i64s l, u.oneCell' = true := by
 intro u hu
 simp at hu
 obtain ⟨_, _, rfl⟩ := hu
 rfl
theorem bcell {W w1 : World} (hb : Below W.heap.size W w1) : (∀ b o, b < W.heap.size → w1.cell? ⟨b, o, none⟩ = W.cell? ⟨b, o, none⟩) ∧ (∀ b o, b < W.heap.size → w1.frozen? ⟨b, o, none⟩ = W.frozen? ⟨b, o, none⟩) :=
 ⟨fun b o h => hb.cell (p := ⟨b, o, none⟩) h, fun b o h => hb.frozen (p := ⟨b, o, none⟩) h⟩
def SlAt (w : World) (p : Option Addr) (c : Nat) (l : List Int) : Prop := l.length ≤ c ∧ c ≤ maxLen ∧ (p = none → c = 0) ∧ Row w p (i64s l)
theorem slat_nil (w : World) : SlAt w none 0 [] := ⟨Nat.le_refl _, Nat.zero_le _, fun _ => rfl, Row.nil _ _⟩
theorem SlAt.below {W w : World} {p : Option Addr} {c : Nat} {l : List Int} (h : SlAt W p c l) (hb : Below W.heap.size W w) : SlAt w p c l := ⟨h.1, h.2.1, h.2.2.1, h.2.2.2.below hb⟩
theorem SlAt.alloc {w : World} {p : Option Addr} {c : Nat} {l : List Int} (h : SlAt w p c l) (o : Obj) : SlAt (w.alloc o) p c l := ⟨h.1, h.2.1, h.2.2.1, h.2.2.2.alloc o⟩
theorem SlAt.drew {w : World} {p : Option Addr} {c : Nat} {l : List Int} (h : SlAt w p c l) : SlAt w.drew p c l := h
theorem own_slat {w : World} {base : Nat} {e : TypeId} {p : Option Addr} {n m c : Nat} {l : List Int} (h : w.ownsRow base e 1 (.slice p m c) n (i64s l)) : SlAt w p c l := by
 have hn : l.length = n := by have := h.1; simpa using this
 obtain ⟨p', c', e', h1, h2, h3, h4, h5⟩ := own_row h
 cases e'
 refine ⟨by omega, h2, fun hp => ?_, h3⟩
 subst hp
 rcases h.2 with ⟨hv, _⟩ | ⟨g, cap, cur, hv, _⟩
 ·cases hv; rfl
 ·cases hv
end Go.Proofs.YtabkmdhkfbcldaaGreat
namespace Go.Proofs.YtabkmdhkfbcldaaGreat
open Go.RowKit
structure Ce where
 kind : Int
 n : Int
 owner : Int
 need : Int
 came : List Int
 turns : Int
 there : Bool
 deriving DecidableEq
structure Ac where
 kind : Int
 cell : Int
 old : Int
 new : Int
def Ce.val (x : Ce) (p : Option Addr) (c : Nat) : Value := .agg #[i64 x.kind, i64 x.n, i64 x.owner, i64 x.need, .slice p x.came.length c, i64 x.turns, .bool x.there]
def Ac.val (a : Ac) : Value := .agg #[i64 a.kind, i64 a.cell, i64 a.old, i64 a.new]
def isW (n : Int) : Bool := decide (0 ≤ n) && decide (n < 64)
def badMk (k n : Int) : Bool := decide (k < 1) || decide (4 < k) || (decide (k = 3) && (decide (n < 1) || decide (64 < n))) || (decide (k ≠ 3) && decide (n ≠ 0))
def ce0 : Ce := ⟨0, 0, 0, 0, [], 0, false⟩
def makeP (k n : Int) : Ce × Int := if badMk k n then (ce0, 1) else (⟨k, 0, -1, n, [], 0, false⟩, 0)
def cameN (l : List Int) (k : Nat) : Bool := (List.range k).all (fun i => isW (l.getD i 0) && !(l.take i).contains (l.getD i 0))
theorem cameN_succ (l : List Int) (k : Nat) : cameN l (k + 1) = (cameN l k && (isW (l.getD k 0) && !(l.take k).contains (l.getD k 0))) := by
 simp [cameN, List.range_succ]
def gateHead (x : Ce) : Bool := decide (1 ≤ x.need) && decide (x.need ≤ 64) && decide ((x.came.length : Int) < x.need) && decide (0 ≤ x.turns) && decide (x.turns ≤ 1152921504606846976)
def gateP (x : Ce) : Bool := gateHead x && cameN x.came x.came.length
def okP (x : Ce) : Bool :=
 if x.kind = 1 then decide (x.owner = -1) && decide (x.need = 0) && decide (x.came = []) && decide (x.turns = 0) && !x.there
 else if x.kind = 2 then (decide (x.owner = -1) || isW x.owner) && decide (x.n = 0) && decide (x.need = 0) && decide (x.came = []) && decide (x.turns = 0) && !x.there
 else if x.kind = 3 then gateP x && decide (x.n = 0) && decide (x.owner = -1) && !x.there
 else if x.kind = 4 then (x.there || decide (x.n = 0)) && decide (x.owner = -1) && decide (x.need = 0) && decide (x.came = []) && decide (x.turns = 0)
 else false
def ckP (x : Ce) : Int := if okP x then 0 else 230
def stepP (x : Ce) (wk : Int) (a : Ac) : Ce × Int × Int :=
 if x.kind = 1 then
  if a.kind = 1 then (x, x.n, 0)
  else if a.kind = 2 then (if x.n = a.old then ({ x with n := a.new }, 1, 0) else (x, 0, 0))
  else if a.kind = 9 then ({ x with n := wrap64 (x.n + a.new) }, x.n, 0)
  else (x, 0, 230)
 else if x.kind = 2 then
  if a.kind = 3 then (if x.owner = wk then (x, 0, 232) else if x.owner = -1 then ({ x with owner := wk }, 0, 0) else (x, 0, 231))
  else if a.kind = 4 then (if x.owner = wk then ({ x with owner := -1 }, 0, 0) else (x, 0, 232))
  else (x, 0, 230)
 else if x.kind = 3 then
  if a.kind = 6 then (if x.turns ≤ a.old then (x, 0, 231) else (x, x.turns, 0))
  else if a.kind = 5 then
   if x.came.contains wk then (x, 0, 232)
   else if x.turns = 1152921504606846976 then (x, 0, 8)
   else if ((x.came.length : Int) + 1 = x.need) then ({ x with came := [], turns := x.turns + 1 }, x.turns, 0)
   else ({ x with came := x.came ++ [wk] }, x.turns, 0)
  else (x, 0, 230)
 else
  if a.kind = 7 then (if x.there then (x, 0, 5) else ({ x with there := true, n := a.new }, 0, 0))
  else if a.kind = 8 then (if x.there then (x, x.n, 0) else (x, 0, 231))
  else (x, 0, 230)
def oneP (x : Ce) (wk : Int) (a : Ac) : Ce × Int × Int :=
 if okP x = false then (x, 0, 230) else if isW wk = false then (x, 0, 1) else stepP x wk a
def CeBlk (w : World) (b : Nat) (x : Ce) (p : Option Addr) (c : Nat) : Prop :=
 w.heap[b]? = some (.cells #[i64 x.kind, i64 x.n, i64 x.owner, i64 x.need, .slice p x.came.length c, i64 x.turns, .bool x.there] 61 (0, 0))
def CeFacts (w : World) (b : Nat) (x : Ce) (p : Option Addr) (c : Nat) : Prop :=
  (w.cell? ⟨b, 0, none⟩ = some (i64 x.kind) ∧ w.cell? ⟨b, 1, none⟩ = some (i64 x.n) ∧ w.cell? ⟨b, 2, none⟩ = some (i64 x.owner) ∧ w.cell? ⟨b, 3, none⟩ = some (i64 x.need) ∧ w.cell? ⟨b, 4, none⟩ = some (.slice p x.came.length c) ∧ w.cell? ⟨b, 5, none⟩ = some (i64 x.turns) ∧ w.cell? ⟨b, 6, none⟩ = some (.bool x.there)) ∧
  (∀ o, w.frozen? ⟨b, o, none⟩ = false) ∧ b < w.heap.size
theorem CeBlk.facts {w : World} {b : Nat} {x : Ce} {p : Option Addr} {c : Nat} (h : CeBlk w b x p c) : CeFacts w b x p c := by
 refine ⟨⟨cell_of_row w b 0 _ _ _ h, cell_of_row w b 1 _ _ _ h, cell_of_row w b 2 _ _ _ h, cell_of_row w b 3 _ _ _ h, cell_of_row w b 4 _ _ _ h, cell_of_row w b 5 _ _ _ h, cell_of_row w b 6 _ _ _ h⟩, fun o => frozen_of_row w b o _ _ h, (Array.getElem?_eq_some_iff.1 h).1⟩
def CeTell (x : Ce) (r : List Value) (w : World) (e : Ending) (w' : World) : Prop :=
 ∃ p c, e = .returned (.tuple ([x.val p c] ++ r).toArray) ∧ SlAt w' p c x.came ∧ Below w.heap.size w w'
end Go.Proofs.YtabkmdhkfbcldaaGreat
namespace Go.Proofs.YtabkmdhkfbcldaaGreat
open Go.RowKit
def idxFrom (v : Int) : List Int → Nat → Int
 | [], _ => -1
 | a :: l, k => if v = a then k else idxFrom v l (k + 1)
theorem idxFrom_iff (v : Int) : ∀ (l : List Int) (k : Nat), 0 ≤ idxFrom v l k ↔ l.contains v = true
 | [], _ => by simp [idxFrom]
 | a :: l, k => by
  have ih := idxFrom_iff v l (k + 1)
  simp only [idxFrom, List.contains_cons]
  by_cases h : v = a
  ·simp [h]
  ·rw [if_neg h, ih]; simp [h]
theorem idxFrom_ge (v : Int) (l : List Int) (k : Nat) : decide (0 ≤ idxFrom v l k) = l.contains v := by
 rw [Bool.eq_iff_iff, decide_eq_true_iff]; exact idxFrom_iff v l k
theorem idxFrom_drop (v : Int) (l : List Int) (k : Nat) (h : k < l.length) : idxFrom v (l.drop k) k = if v = l[k] then (k : Int) else idxFrom v (l.drop (k + 1)) (k + 1) := by
 rw [List.drop_eq_getElem_cons h]; rfl
set_option maxHeartbeats 1000000 in
theorem indexI_any (p : Option Addr) (c : Nat) (l : List Int) (v : Int) (w : World) (hl : l.length ≤ maxLen) (hrow : Row w p (i64s l)) :
  Calls Tryz.prog 94 #[.slice p l.length c, i64 v] w fun e w' => e = .returned (i64 (idxFrom v l 0)) ∧ w = w' := by
 unfold maxLen at hl
 go_enter Tryz.func94, Tryz.ntmps94
 go_wp2
 go_loop [8] (fun i => ∃ k : Nat, k ≤ l.length ∧ i = .int .i64 k ∧ idxFrom v (l.drop k) k = idxFrom v l 0) (fun i => l.length - (intOf i).toNat)
 case atStart => exact ⟨0, Nat.zero_le _, rfl, by simp⟩
 case round =>
  obtain ⟨k, hk, rfl, he⟩ := hrel
  have HE := hid he
  clear he
  by_cases hlt : k < l.length
  ·obtain ⟨b1, o1, rfl, hb1, hz1⟩ := hrow.at (by simp; omega)
   clear hz1
   have c1 := hrow.cell k (by simpa using hlt)
   simp only [i64s, List.getElem_map] at c1
   have HD := hid (idxFrom_drop v l k hlt)
   obtain ⟨x, hx⟩ : ∃ x, x = l[k] := ⟨_, rfl⟩
   rw [← hx] at c1 HD
   clear hx
   by_cases hxv : v = x
   ·have hb : (v == x) = true := by simpa using hxv
    have HF : Hid (idxFrom v l 0 = (k : Int)) := by rw [Hid, ← HE.out, HD.out, if_pos hxv]
    clear hxv
    go_wp2
    go_ret
    exact ⟨ret_int (by rw [HF.out]), rfl⟩
   ·have hb : (v == x) = false := by simpa using hxv
    have HF : Hid (idxFrom v (l.drop (k + 1)) (k + 1) = idxFrom v l 0) := by rw [Hid, ← HE.out, HD.out, if_neg hxv]
    clear hxv
    go_wp2
    go_round
    case rel => exact ⟨k + 1, by omega, by go_num, HF.out⟩
    case measure => simp [intOf]; omega
  ·have hkx : k = l.length := by omega
   have HF : Hid (idxFrom v l 0 = -1) := by rw [Hid, ← HE.out, hkx, List.drop_length]; rfl
   subst hkx
   go_wp2
   go_ret
   exact ⟨ret_int (by rw [HF.out]), rfl⟩
set_option maxHeartbeats 1000000 in
theorem containsI_any (p : Option Addr) (c : Nat) (l : List Int) (v : Int) (w : World) (hl : l.length ≤ maxLen) (hrow : Row w p (i64s l)) :
  Calls Tryz.prog 70 #[.slice p l.length c, i64 v] w fun e w' => e = .returned (.bool (l.contains v)) ∧ w = w' := by
 have H := hid (indexI_any p c l v w hl hrow)
 have HC := hid (idxFrom_ge v l 0)
 obtain ⟨x, hx⟩ : ∃ x, x = idxFrom v l 0 := ⟨_, rfl⟩
 rw [← hx] at H HC
 clear hx
 go_enter Tryz.func70, Tryz.ntmps70
 go_wp2_with (go_at_call 94; refine H.out.mono ?_; rintro e w1 ⟨rfl, rfl⟩)
 go_ret
 exact ⟨ret_bool (by rw [← HC.out]), rfl⟩
end Go.Proofs.YtabkmdhkfbcldaaGreat
namespace Go.Proofs.YtabkmdhkfbcldaaGreat
open Go.RowKit
theorem isW_any (n : Int) (w : World) : Calls Tryz.prog 59 #[i64 n] w fun e w' => e = .returned (.bool (isW n)) ∧ w = w' := by
 by_cases h : 0 ≤ n
 ·go_enter Tryz.func59, Tryz.ntmps59
  go_wp2
  go_ret
  exact ⟨ret_bool (by simp [isW, h]), rfl⟩
 ·have h' : n < 0 := by omega
  have HD : Hid (isW n = false) := by simp [Hid, isW, h]
  clear h
  go_enter Tryz.func59, Tryz.ntmps59
  go_wp2
  go_ret
  exact ⟨ret_bool (by rw [HD.out]), rfl⟩
theorem cameN_no {l : List Int} {k : Nat} (hk : k < l.length) (h : (isW (l.getD k 0) && !(l.take k).contains (l.getD k 0)) = false) : cameN l l.length = false := by
 rw [cameN, List.all_eq_false]
 exact ⟨k, List.mem_range.2 hk, by simpa using h⟩
set_option maxHeartbeats 2000000 in
theorem gate_any (x : Ce) (p : Option Addr) (c : Nat) (w : World) (hsl : SlAt w p c x.came) (hm : x.came.length ≤ 17592186043904) :
  Calls Tryz.prog 60 #[x.val p c] w fun e w' => e = .returned (.bool (gateP x)) ∧ Below w.heap.size w w' := by
 obtain ⟨kind, n, owner, need, came, turns, there⟩ := x
 unfold Ce.val
 dsimp only at hsl hm ⊢
 have HS := hid hsl
 obtain ⟨hlc, hcm, hp, hrow⟩ := hsl
 unfold maxLen at hcm
 clear hp
 by_cases h0 : need < 1
 ·have HF : Hid (gateP ⟨kind, n, owner, need, came, turns, there⟩ = false) := by simp [Hid, gateP, gateHead]; omega
  have e0 : decide (need < 1) = true := by rw [decide_eq_true_iff]; omega
  clear h0
  go_enter Tryz.func60, Tryz.ntmps60
  go_wp2
  go_ret
  exact ⟨ret_bool (by rw [HF.out]), (Below.refl _ _).alloc (Nat.le_refl _) _⟩
 ·skip
  by_cases h1 : 64 < need
  ·have HF : Hid (gateP ⟨kind, n, owner, need, came, turns, there⟩ = false) := by simp [Hid, gateP, gateHead]; omega
   have e0 : decide (need < 1) = false := by rw [decide_eq_false_iff_not]; omega
   have e1 : decide (64 < need) = true := by rw [decide_eq_true_iff]; omega
   clear h0 h1
   go_enter Tryz.func60, Tryz.ntmps60
   go_wp2
   go_ret
   exact ⟨ret_bool (by rw [HF.out]), (Below.refl _ _).alloc (Nat.le_refl _) _⟩
  ·skip
   by_cases h2 : need ≤ (came.length : Int)
   ·have HF : Hid (gateP ⟨kind, n, owner, need, came, turns, there⟩ = false) := by simp [Hid, gateP, gateHead]; omega
    have e0 : decide (need < 1) = false := by rw [decide_eq_false_iff_not]; omega
    have e1 : decide (64 < need) = false := by rw [decide_eq_false_iff_not]; omega
    have e2 : decide (need ≤ (came.length : Int)) = true := by rw [decide_eq_true_iff]; omega
    clear h0 h1 h2
    go_enter Tryz.func60, Tryz.ntmps60
    go_wp2
    go_ret
    exact ⟨ret_bool (by rw [HF.out]), (Below.refl _ _).alloc (Nat.le_refl _) _⟩
   ·skip
    by_cases h3 : turns < 0
    ·have HF : Hid (gateP ⟨kind, n, owner, need, came, turns, there⟩ = false) := by simp [Hid, gateP, gateHead]; omega
     have e0 : decide (need < 1) = false := by rw [decide_eq_false_iff_not]; omega
     have e1 : decide (64 < need) = false := by rw [decide_eq_false_iff_not]; omega
     have e2 : decide (need ≤ (came.length : Int)) = false := by rw [decide_eq_false_iff_not]; omega
     have e3 : decide (turns < 0) = true := by rw [decide_eq_true_iff]; omega
     clear h0 h1 h2 h3
     go_enter Tryz.func60, Tryz.ntmps60
     go_wp2
     go_ret
     exact ⟨ret_bool (by rw [HF.out]), (Below.refl _ _).alloc (Nat.le_refl _) _⟩
    ·skip
     by_cases h4 : 1152921504606846976 < turns
     ·have HF : Hid (gateP ⟨kind, n, owner, need, came, turns, there⟩ = false) := by simp [Hid, gateP, gateHead]; omega
      have e0 : decide (need < 1) = false := by rw [decide_eq_false_iff_not]; omega
      have e1 : decide (64 < need) = false := by rw [decide_eq_false_iff_not]; omega
      have e2 : decide (need ≤ (came.length : Int)) = false := by rw [decide_eq_false_iff_not]; omega
      have e3 : decide (turns < 0) = false := by rw [decide_eq_false_iff_not]; omega
      have e4 : decide (1152921504606846976 < turns) = true := by rw [decide_eq_true_iff]; omega
      clear h0 h1 h2 h3 h4
      go_enter Tryz.func60, Tryz.ntmps60
      go_wp2
      go_ret
      exact ⟨ret_bool (by rw [HF.out]), (Below.refl _ _).alloc (Nat.le_refl _) _⟩
     ·skip
      have e0 : decide (need < 1) = false := by rw [decide_eq_false_iff_not]; omega
      have e1 : decide (64 < need) = false := by rw [decide_eq_false_iff_not]; omega
      have e2 : decide (need ≤ (came.length : Int)) = false := by rw [decide_eq_false_iff_not]; omega
      have e3 : decide (turns < 0) = false := by rw [decide_eq_false_iff_not]; omega
      have e4 : decide (1152921504606846976 < turns) = false := by rw [decide_eq_false_iff_not]; omega
      have HG : Hid (gateP ⟨kind, n, owner, need, came, turns, there⟩ = cameN came came.length) := by
       simp only [Hid, gateP, gateHead]
       rw [decide_eq_true (show 1 ≤ need by omega), decide_eq_true (show need ≤ 64 by omega), decide_eq_true (show (came.length : Int) < need by omega), decide_eq_true (show 0 ≤ turns by omega), decide_eq_true (show turns ≤ 1152921504606846976 by omega)]
       simp
      clear h0 h1 h2 h3 h4
      go_enter Tryz.func60, Tryz.ntmps60
      go_wp2
      go_loop [34] (fun i => ∃ k : Nat, k ≤ came.length ∧ i = .int .i64 k ∧ cameN came k = true) (fun i => came.length - (intOf i).toNat)
      case atStart => exact ⟨0, Nat.zero_le _, rfl, rfl⟩
      case round =>
       obtain ⟨k, hk, rfl, hcn⟩ := hrel
       have HCN := hid hcn
       clear hcn
       by_cases hlt : k < came.length
       ·obtain ⟨b1, o1, rfl, hb1, hz1⟩ := hrow.at (by simp; omega)
        clear hz1
        have c1 := hrow.cell k (by simpa using hlt)
        simp only [i64s, List.getElem_map] at c1
        have HX : Hid (came.getD k 0 = came[k]) := by simp [Hid, hlt]
        have HNO := hid (fun h => cameN_no hlt h)
        have HYS := hid (cameN_succ came k)
        rw [HX.out] at HNO HYS
        obtain ⟨v, hv⟩ : ∃ v, v = came[k] := ⟨_, rfl⟩
        rw [← hv] at c1 HNO HYS
        clear hv HX
        have HCON := hid (fun w1 (hr : Row w1 (some ⟨b1, o1, none⟩) (i64s came)) =>
         show Calls Tryz.prog 70 #[.slice (some ⟨b1, o1, none⟩) k c, i64 v] w1 fun e w' => e = .returned (.bool ((came.take k).contains v)) ∧ w1 = w' by
          have := containsI_any (some ⟨b1, o1, none⟩) c (came.take k) v w1 (by unfold maxLen; simp; omega) (by have := hr.take k; rwa [← List.map_take] at this)
          rwa [List.length_take, Nat.min_eq_left (by omega)] at this)
        have HIW := hid (isW_any v)
        have hrowA := hrow.alloc (.cells #[i64 kind, i64 n, i64 owner, i64 need, .slice (some ⟨b1, o1, none⟩) came.length c, i64 turns, .bool there] 61)
        cases hw : isW v with
        | false =>
         rw [hw] at HIW HNO
         have HNO := hid (HNO.out rfl)
         clear HYS HCON hw
         go_wp2_with (go_at_call 59; refine (HIW.out _).mono ?_; rintro e w1 ⟨rfl, rfl⟩)
         go_ret
         exact ⟨ret_bool (by rw [HG.out, HNO.out]), (Below.refl _ _).alloc (Nat.le_refl _) _⟩
        | true =>
         cases hct : (came.take k).contains v with
         | true =>
          rw [hw, hct] at HNO
          rw [hw] at HIW
          rw [hct] at HCON
          have HNO := hid (HNO.out rfl)
          clear HYS hw hct
          go_wp2_with (first
           | (go_at_call 59; refine (HIW.out _).mono ?_; rintro e w1 ⟨rfl, rfl⟩)
           | (go_at_call 70; refine (HCON.out _ hrowA).mono ?_; rintro e w1 ⟨rfl, rfl⟩))
          go_ret
          exact ⟨ret_bool (by rw [HG.out, HNO.out]), (Below.refl _ _).alloc (Nat.le_refl _) _⟩
         | false =>
          rw [hw, hct, HCN.out] at HYS
          rw [hw] at HIW
          rw [hct] at HCON
          clear HNO hw hct
          go_wp2_with (first
           | (go_at_call 59; refine (HIW.out _).mono ?_; rintro e w1 ⟨rfl, rfl⟩)
           | (go_at_call 70; refine (HCON.out _ hrowA).mono ?_; rintro e w1 ⟨rfl, rfl⟩))
          go_round
          case rel => exact ⟨k + 1, by omega, by go_num, HYS.out⟩
          case measure => simp [intOf]; omega
       ·have hkx : k = came.length := by omega
        subst hkx
        go_wp2
        go_ret
        exact ⟨ret_bool (by rw [HG.out, HCN.out]), (Below.refl _ _).alloc (Nat.le_refl _) _⟩
end Go.Proofs.YtabkmdhkfbcldaaGreat
namespace Go.Proofs.YtabkmdhkfbcldaaGreat
open Go.RowKit
end Go.Proofs.YtabkmdhkfbcldaaGreat
namespace Go.Proofs.YtabkmdhkfbcldaaGreat
open Go.RowKit
theorem EI : Elem Tryz.prog 40 3 1 8 (.int .i64 0) := Elem.mk' Tryz.underlying40 (by kernel_rfl) rfl (by decide)
def CloneIPost (l : List Int) (w : World) (e : Ending) (w' : World) : Prop :=
 ∃ v, e = .returned v ∧ w'.ownsRow w.heap.size 3 1 v l.length (i64s l) ∧ Below w.heap.size w w'
set_option maxHeartbeats 1000000 in
theorem cloneI_any (p : Option Addr) (c : Nat) (l : List Int) (w : World) (hm : l.length ≤ 17592186043904) (hp : p = none → c = 0) (hrow : Row w p (i64s l)) :
  Calls Tryz.prog 62 #[.slice p l.length c] w (CloneIPost l w) := by
 cases p with
 | none =>
  have hc := hp rfl
  subst hc
  have h0 : l = [] := by
   apply Classical.byContradiction
   intro hne
   obtain ⟨b, o, e, _⟩ := hrow (by simpa using hne)
   cases e
  subst h0
  have hnil := fun (w : World) => Lib.run_eql_slice_nil (P := Tryz.prog) w 40 3 none 0 0 0 0 Tryz.underlying40
  go_enter Tryz.func62, Tryz.ntmps62
  go_wp2
  go_ret
  exact ⟨_, rfl, World.ownsRow_nil _ _ _ _, Below.refl _ _⟩
 | some a =>
  have hnil := fun (w : World) (n c : Nat) => Lib.run_eql_slice_nil (P := Tryz.prog) w 40 3 (some a) n c 0 0 Tryz.underlying40
  go_enter Tryz.func62, Tryz.ntmps62
  go_wp2_with ((with_reducible show wpList _ _ _ (⟨some 7, _, _, _, _, _⟩ :: _) _ _); go_loud (refine wpList_app EI rfl _ _ rfl w.heap.size _ 0 [] rfl (own_new w [] 3 w.heap.size 0 1 (Nat.le_refl _) rfl (by decide)) _ _ _ (i64s l) rfl (by simp) hp (hrow.alloc _) (ints_one l) (by unfold maxLen; omega) (by omega) (by simp) ?_); intro v2 w2 ho2 hg2 hs2; rw [Nat.zero_add, List.nil_append] at ho2)
  have hg2 : (w.alloc (.cells #[] 3)).grownBy w2 (some w.heap.size) := hg2
  go_ret
  exact ⟨v2, rfl, ho2, ((Below.refl _ _).alloc (Nat.le_refl _) _).grown hg2 (by simp) (by rintro k e; cases e; exact Nat.le_refl _)⟩
end Go.Proofs.YtabkmdhkfbcldaaGreat
namespace Go.Proofs.YtabkmdhkfbcldaaGreat
open Go.RowKit
def CopyTell (x : Ce) (w : World) (e : Ending) (w' : World) : Prop :=
 ∃ p c, e = .returned (x.val p c) ∧ w'.ownsRow w.heap.size 3 1 (.slice p x.came.length c) x.came.length (i64s x.came) ∧ Below w.heap.size w w'
theorem ce_blk1 {w w1 : World} (x : Ce) (p : Option Addr) (c : Nat) {o2 : Obj} (hb : Below ((w.alloc (.cells #[i64 x.kind, i64 x.n, i64 x.owner, i64 x.need, .slice p x.came.length c, i64 x.turns, .bool x.there] 61)).alloc o2).heap.size ((w.alloc (.cells #[i64 x.kind, i64 x.n, i64 x.owner, i64 x.need, .slice p x.came.length c, i64 x.turns, .bool x.there] 61)).alloc o2) w1) : CeFacts w1 w.heap.size x p c :=
 CeBlk.facts (w := w1) (b := w.heap.size) (x := x) (p := p) (c := c) ((hb.block _ (by simp; omega)).trans ((Below.heap_alloc _ _ _ (by simp)).trans (heap_alloc_new w _)))
theorem ce_blk2 {w w1 : World} {o1 : Obj} (hb : Below ((w.alloc o1).alloc (.cells #[.int .i64 0, .int .i64 0, .int .i64 0, .int .i64 0, .slice none 0 0, .int .i64 0, .bool false] 61)).heap.size ((w.alloc o1).alloc (.cells #[.int .i64 0, .int .i64 0, .int .i64 0, .int .i64 0, .slice none 0 0, .int .i64 0, .bool false] 61)) w1) : CeFacts w1 (w.heap.size + 1) ce0 none 0 :=
 CeBlk.facts (w := w1) (b := w.heap.size + 1) (x := ce0) (p := none) (c := 0) ((hb.block _ (by simp)).trans (by have := heap_alloc_new (w.alloc o1) (.cells #[.int .i64 0, .int .i64 0, .int .i64 0, .int .i64 0, .slice none 0 0, .int .i64 0, .bool false] 61 (0, 0)); rw [World.size_alloc] at this; exact this))
set_option maxHeartbeats 1000000 in
theorem copied_any (x : Ce) (p : Option Addr) (c : Nat) (w : World) (hm : x.came.length ≤ 17592186043904) (hsl : SlAt w p c x.came) :
  Calls Tryz.prog 38 #[x.val p c] w (CopyTell x w) := by
 obtain ⟨kind, n, owner, need, came, turns, there⟩ := x
 unfold Ce.val
 dsimp only at hm hsl ⊢
 have hp := hsl.2.2.1
 have hrow := hsl.2.2.2
 clear hsl
 have HC := hid (fun w1 (hr : Row w1 p (i64s came)) => cloneI_any p c came w1 hm hp hr)
 go_enter Tryz.func38, Tryz.ntmps38
 go_wp2_with (go_at_call 62; refine (HC.out _ ((hrow.alloc _).alloc _)).mono ?_; rintro e w1 ⟨v, rfl, ho, hb⟩; have hz := hb.size; have HO := hid ho; obtain ⟨vp, vc, rfl, hr⟩ := own_shape ho; simp only [World.size_alloc] at hz; obtain ⟨⟨k0, k1, k2, k3, k4, k5, k6⟩, kf, kl⟩ := ce_blk1 ⟨kind, n, owner, need, came, turns, there⟩ p c hb; obtain ⟨⟨j0, j1, j2, j3, j4, j5, j6⟩, jf, jl⟩ := ce_blk2 hb)
 exact bodyPost_ret (v := (Ce.mk kind n owner need came turns there).val vp vc) (by simp [results, Tryz.results38, go_sem, Ce.val, k0, k1, k2, k3, k4, k5, k6, j0, j1, j2, j3, j4, j5, j6]) rfl (by
  refine ⟨vp, vc, rfl, ?_, ?_⟩
  ·repeat (refine own_setO ?_ _ _ (fun g hg => by have := own_ge HO.out g hg; simp at this ⊢; omega))
   exact own_lower HO.out (by simp; omega)
  ·repeat (refine Below.setCell ?_ (by simp) _)
   exact (((Below.refl _ _).alloc (Nat.le_refl _) _).alloc (by simp) _).trans (hb.mono (by simp; omega)))
end Go.Proofs.YtabkmdhkfbcldaaGreat
namespace Go.Proofs.YtabkmdhkfbcldaaGreat
open Go.RowKit
set_option maxHeartbeats 1000000 in
theorem eqI_any (p q : Option Addr) (c d : Nat) (l m : List Int) (w : World) (h1 : Row w p (i64s l)) (h2 : Row w q (i64s m)) (hl : l.length ≤ maxLen) (hm : m.length ≤ maxLen) :
  Calls Tryz.prog 71 #[.slice p l.length c, .slice q m.length d] w fun e w' => e = .returned (.bool (decide (l = m))) ∧ Below w.heap.size w w' := by
 unfold maxLen at hl hm
 by_cases hlm : l.length = m.length
 ·have HM := hid hlm
  rw [← hlm]
  clear hlm
  have hne : (((l.length : Nat) : Int) != (l.length : Int)) = false := by simp
  go_enter Tryz.func71, Tryz.ntmps71
  go_wp2
  go_loopw [13] (fun i wr => ∃ k : Nat, k ≤ l.length ∧ i = .int .i64 k ∧ l.take k = m.take k ∧ Below w.heap.size w wr) (fun i _ => l.length - (intOf i).toNat)
  case atStart => exact ⟨0, Nat.zero_le _, rfl, by simp, Below.refl _ _⟩
  case round =>
   obtain ⟨k, hk, rfl, htk, hb⟩ := hrel
   have HT := hid htk
   clear htk
   have hsz := hb.size
   by_cases hlt : k < l.length
   ·have hlt2 : k < m.length := by rw [← HM.out]; exact hlt
    obtain ⟨b1, o1, rfl, hb1, hz1⟩ := h1.at (by simp; omega)
    obtain ⟨b2, o2, rfl, hb2, hz2⟩ := h2.at (by simp; omega)
    clear hz1 hz2
    have c1 := (hb.cell (p := ⟨b1, o1 + k, none⟩) hb1).trans (h1.cell k (by simpa using hlt))
    have c2 := (hb.cell (p := ⟨b2, o2 + k, none⟩) hb2).trans (h2.cell k (by simpa using hlt2))
    simp only [i64s, List.getElem_map] at c1 c2
    have HA : Hid (l.take (k + 1) = l.take k ++ [l[k]]) := take_succ l k hlt
    have HB : Hid (m.take (k + 1) = m.take k ++ [m[k]]) := take_succ m k hlt2
    have HN : Hid (l[k] ≠ m[k] → decide (l = m) = false) := fun h => by
     rw [decide_eq_false_iff_not]
     intro e
     subst e
     exact h rfl
    obtain ⟨x, hx⟩ : ∃ x, x = l[k] := ⟨_, rfl⟩
    obtain ⟨y, hy⟩ : ∃ y, y = m[k] := ⟨_, rfl⟩
    rw [← hx] at c1 HA HN
    rw [← hy] at c2 HB HN
    clear hx hy hlt2
    by_cases hxy : x = y
    ·subst hxy
     have hxx : (x != x) = false := by simp
     go_wp2
     go_region
     go_wp2
     go_roundw
     case rel => exact ⟨k + 1, by omega, by go_num, by rw [HA.out, HB.out, HT.out], hb.drew⟩
     case measure => simp [intOf]; omega
    ·have hxx : (x != y) = true := by simpa using hxy
     have HN := hid (HN.out hxy)
     clear hxy
     go_wp2
     go_region
     go_wp2
     go_ret
     exact ⟨ret_bool (by rw [HN.out]), hb.drew⟩
   ·have hkx : k = l.length := by omega
    have HE : Hid (decide (l = m) = true) := by
     have h := HT.out
     rw [hkx, List.take_length, HM.out, List.take_length] at h
     simpa [Hid] using h
    clear HT
    subst hkx
    go_wp2
    go_ret
    exact ⟨ret_bool (by rw [HE.out]), hb⟩
 ·have HE : Hid (decide (l = m) = false) := by
   simp only [Hid, decide_eq_false_iff_not]
   intro e
   exact hlm (by rw [e])
  have hne : (((l.length : Nat) : Int) != (m.length : Int)) = true := by rw [bne_iff_ne]; omega
  clear hlm
  go_enter Tryz.func71, Tryz.ntmps71
  go_wp2
  go_ret
  exact ⟨ret_bool (by rw [HE.out]), Below.refl _ _⟩
end Go.Proofs.YtabkmdhkfbcldaaGreat
namespace Go.Proofs.YtabkmdhkfbcldaaGreat
open Go.RowKit
set_option maxHeartbeats 2000000 in
theorem same_any (x y : Ce) (p q : Option Addr) (c d : Nat) (w : World) (hx : SlAt w p c x.came) (hy : SlAt w q d y.came) :
  Calls Tryz.prog 61 #[x.val p c, y.val q d] w fun e w' => e = .returned (.bool (decide (x = y))) ∧ Below w.heap.size w w' := by
 obtain ⟨kind, n, owner, need, came, turns, there⟩ := x
 obtain ⟨kind', n', owner', need', came', turns', there'⟩ := y
 unfold Ce.val
 dsimp only at hx hy ⊢
 obtain ⟨hl1, hm1, hp1, hr1⟩ := hx
 obtain ⟨hl2, hm2, hp2, hr2⟩ := hy
 unfold maxLen at hm1 hm2
 clear hp1 hp2
 by_cases h_kind : kind = kind'
 rotate_left
 ·have HF : Hid (decide (Ce.mk kind n owner need came turns there = Ce.mk kind' n' owner' need' came' turns' there') = false) := by simp [Hid, h_kind]
  have e_kind : (kind == kind') = false := by simp [h_kind]
  clear h_kind
  go_enter Tryz.func61, Tryz.ntmps61
  go_wp2
  go_ret
  exact ⟨ret_bool (by rw [HF.out]), ((Below.refl _ _).alloc (Nat.le_refl _) _).alloc (by simp) _⟩
 by_cases h_n : n = n'
 rotate_left
 ·have HF : Hid (decide (Ce.mk kind n owner need came turns there = Ce.mk kind' n' owner' need' came' turns' there') = false) := by simp [Hid, h_n]
  have e_kind : (kind == kind') = true := by simp [h_kind]
  have e_n : (n == n') = false := by simp [h_n]
  clear h_kind h_n
  go_enter Tryz.func61, Tryz.ntmps61
  go_wp2
  go_ret
  exact ⟨ret_bool (by rw [HF.out]), ((Below.refl _ _).alloc (Nat.le_refl _) _).alloc (by simp) _⟩
 by_cases h_owner : owner = owner'
 rotate_left
 ·have HF : Hid (decide (Ce.mk kind n owner need came turns there = Ce.mk kind' n' owner' need' came' turns' there') = false) := by simp [Hid, h_owner]
  have e_kind : (kind == kind') = true := by simp [h_kind]
  have e_n : (n == n') = true := by simp [h_n]
  have e_owner : (owner == owner') = false := by simp [h_owner]
  clear h_kind h_n h_owner
  go_enter Tryz.func61, Tryz.ntmps61
  go_wp2
  go_ret
  exact ⟨ret_bool (by rw [HF.out]), ((Below.refl _ _).alloc (Nat.le_refl _) _).alloc (by simp) _⟩
 by_cases h_need : need = need'
 rotate_left
 ·have HF : Hid (decide (Ce.mk kind n owner need came turns there = Ce.mk kind' n' owner' need' came' turns' there') = false) := by simp [Hid, h_need]
  have e_kind : (kind == kind') = true := by simp [h_kind]
  have e_n : (n == n') = true := by simp [h_n]
  have e_owner : (owner == owner') = true := by simp [h_owner]
  have e_need : (need == need') = false := by simp [h_need]
  clear h_kind h_n h_owner h_need
  go_enter Tryz.func61, Tryz.ntmps61
  go_wp2
  go_ret
  exact ⟨ret_bool (by rw [HF.out]), ((Below.refl _ _).alloc (Nat.le_refl _) _).alloc (by simp) _⟩
 by_cases h_turns : turns = turns'
 rotate_left
 ·have HF : Hid (decide (Ce.mk kind n owner need came turns there = Ce.mk kind' n' owner' need' came' turns' there') = false) := by simp [Hid, h_turns]
  have e_kind : (kind == kind') = true := by simp [h_kind]
  have e_n : (n == n') = true := by simp [h_n]
  have e_owner : (owner == owner') = true := by simp [h_owner]
  have e_need : (need == need') = true := by simp [h_need]
  have e_turns : (turns == turns') = false := by simp [h_turns]
  clear h_kind h_n h_owner h_need h_turns
  go_enter Tryz.func61, Tryz.ntmps61
  go_wp2
  go_ret
  exact ⟨ret_bool (by rw [HF.out]), ((Below.refl _ _).alloc (Nat.le_refl _) _).alloc (by simp) _⟩
 by_cases h_there : there = there'
 rotate_left
 ·have HF : Hid (decide (Ce.mk kind n owner need came turns there = Ce.mk kind' n' owner' need' came' turns' there') = false) := by simp [Hid, h_there]
  have e_kind : (kind == kind') = true := by simp [h_kind]
  have e_n : (n == n') = true := by simp [h_n]
  have e_owner : (owner == owner') = true := by simp [h_owner]
  have e_need : (need == need') = true := by simp [h_need]
  have e_turns : (turns == turns') = true := by simp [h_turns]
  have e_there : (there == there') = false := by simp [h_there]
  clear h_kind h_n h_owner h_need h_turns h_there
  go_enter Tryz.func61, Tryz.ntmps61
  go_wp2
  go_ret
  exact ⟨ret_bool (by rw [HF.out]), ((Below.refl _ _).alloc (Nat.le_refl _) _).alloc (by simp) _⟩
 have e_kind : (kind == kind') = true := by simp [h_kind]
 have e_n : (n == n') = true := by simp [h_n]
 have e_owner : (owner == owner') = true := by simp [h_owner]
 have e_need : (need == need') = true := by simp [h_need]
 have e_turns : (turns == turns') = true := by simp [h_turns]
 have e_there : (there == there') = true := by simp [h_there]
 have HF : Hid (decide (Ce.mk kind n owner need came turns there = Ce.mk kind' n' owner' need' came' turns' there') = decide (came = came')) := by
  rw [Hid, decide_eq_decide, Ce.mk.injEq]
  exact ⟨fun h => h.2.2.2.2.1, fun h => ⟨h_kind, h_n, h_owner, h_need, h, h_turns, h_there⟩⟩
 clear h_kind h_n h_owner h_need h_turns h_there
 have HEQ := hid (fun w1 (h1 : Row w1 p (i64s came)) (h2 : Row w1 q (i64s came')) => eqI_any p q c d came came' w1 h1 h2 (by unfold maxLen; omega) (by unfold maxLen; omega))
 go_enter Tryz.func61, Tryz.ntmps61
 go_wp2_with (go_at_call 71; refine (HEQ.out _ ((hr1.alloc _).alloc _) ((hr2.alloc _).alloc _)).mono ?_; rintro e w1 ⟨rfl, hb⟩)
 go_ret
 exact ⟨ret_bool (by rw [HF.out]), (((Below.refl _ _).alloc (Nat.le_refl _) _).alloc (by simp) _).trans (hb.mono (by simp; omega))⟩
end Go.Proofs.YtabkmdhkfbcldaaGreat
namespace Go.Proofs.YtabkmdhkfbcldaaGreat
open Go.RowKit
set_option maxHeartbeats 2000000 in
theorem check_1 (n owner need turns : Int) (came : List Int) (there : Bool) (p : Option Addr) (c : Nat) (w : World) (hsl : SlAt w p c came) (hm : came.length ≤ 17592186043904) :
  Calls Tryz.prog 37 #[(Ce.mk 1 n owner need came turns there).val p c] w fun e w' => e = .returned (i64 (ckP ⟨1, n, owner, need, came, turns, there⟩)) ∧ Below w.heap.size w w' := by
 unfold Ce.val
 dsimp only
 have HSM := hid (fun w1 (h : SlAt w1 p c came) => same_any ⟨1, n, owner, need, came, turns, there⟩ ⟨1, n, -1, 0, [], 0, false⟩ p none c 0 w1 h (slat_nil w1))
 unfold Ce.val at HSM
 dsimp only [List.length_nil] at HSM
 have HP : Hid (ckP ⟨1, n, owner, need, came, turns, there⟩ = if decide ((⟨1, n, owner, need, came, turns, there⟩ : Ce) = ⟨1, n, -1, 0, [], 0, false⟩) = true then 0 else 230) := by
  simp [Hid, ckP, okP, and_assoc]
 cases hd : decide ((⟨1, n, owner, need, came, turns, there⟩ : Ce) = ⟨1, n, -1, 0, [], 0, false⟩) with
 | true =>
  rw [hd] at HSM HP
  clear hd
  go_enter Tryz.func37, Tryz.ntmps37
  go_wp2_with (go_at_call 61; refine (HSM.out _ ((hsl.alloc _).alloc _)).mono ?_; rintro e w9 ⟨rfl, hb9⟩)
  go_ret
  exact ⟨ret_int (by rw [HP.out]; rfl), (((Below.refl _ _).alloc (Nat.le_refl _) _).alloc (by simp) _).trans (hb9.mono (by simp; omega))⟩
 | false =>
  rw [hd] at HSM HP
  clear hd
  go_enter Tryz.func37, Tryz.ntmps37
  go_wp2_with (go_at_call 61; refine (HSM.out _ ((hsl.alloc _).alloc _)).mono ?_; rintro e w9 ⟨rfl, hb9⟩)
  go_ret
  exact ⟨ret_int (by rw [HP.out]; rfl), (((Below.refl _ _).alloc (Nat.le_refl _) _).alloc (by simp) _).trans (hb9.mono (by simp; omega))⟩
set_option maxHeartbeats 2000000 in
theorem check_2 (n owner need turns : Int) (came : List Int) (there : Bool) (p : Option Addr) (c : Nat) (w : World) (hsl : SlAt w p c came) (hm : came.length ≤ 17592186043904) :
  Calls Tryz.prog 37 #[(Ce.mk 2 n owner need came turns there).val p c] w fun e w' => e = .returned (i64 (ckP ⟨2, n, owner, need, came, turns, there⟩)) ∧ Below w.heap.size w w' := by
 unfold Ce.val
 dsimp only
 have HSM := hid (fun w1 (h : SlAt w1 p c came) => same_any ⟨2, n, owner, need, came, turns, there⟩ ⟨2, 0, owner, 0, [], 0, false⟩ p none c 0 w1 h (slat_nil w1))
 unfold Ce.val at HSM
 dsimp only [List.length_nil] at HSM
 have HIW := hid (isW_any owner)
 have HP : Hid (ckP ⟨2, n, owner, need, came, turns, there⟩ = if (decide (owner = -1) || isW owner) && decide ((⟨2, n, owner, need, came, turns, there⟩ : Ce) = ⟨2, 0, owner, 0, [], 0, false⟩) = true then 0 else 230) := by
  simp [Hid, ckP, okP, and_assoc]
 by_cases ho : owner = -1 ∨ isW owner = true
 ·have HO : Hid ((decide (owner = -1) || isW owner) = true) := by simpa [Hid] using ho
  rw [HO.out, Bool.true_and] at HP
  cases hd : decide ((⟨2, n, owner, need, came, turns, there⟩ : Ce) = ⟨2, 0, owner, 0, [], 0, false⟩) <;>
  ·rw [hd] at HSM HP
   clear hd
   by_cases h1 : owner = -1
   ·have e1 : (owner == -1) = true := by simpa using h1
    clear h1 ho
    go_enter Tryz.func37, Tryz.ntmps37
    go_wp2_with (go_at_call 61; refine (HSM.out _ ((hsl.alloc _).alloc _)).mono ?_; rintro e w9 ⟨rfl, hb9⟩)
    go_ret
    exact ⟨ret_int (by rw [HP.out]; rfl), (((Below.refl _ _).alloc (Nat.le_refl _) _).alloc (by simp) _).trans (hb9.mono (by simp; omega))⟩
   ·have e1 : (owner == -1) = false := by simpa using h1
    rw [show isW owner = true from ho.resolve_left h1] at HIW
    clear h1 ho
    go_enter Tryz.func37, Tryz.ntmps37
    go_wp2_with (first
     | (go_at_call 59; refine (HIW.out _).mono ?_; rintro e w8 ⟨rfl, rfl⟩)
     | (go_at_call 61; refine (HSM.out _ ((hsl.alloc _).alloc _)).mono ?_; rintro e w9 ⟨rfl, hb9⟩))
    go_ret
    exact ⟨ret_int (by rw [HP.out]; rfl), (((Below.refl _ _).alloc (Nat.le_refl _) _).alloc (by simp) _).trans (hb9.mono (by simp; omega))⟩
 ·have h1 : owner ≠ -1 := fun h => ho (.inl h)
  have h2 : isW owner = false := by simpa using fun h => ho (.inr h)
  have e1 : (owner == -1) = false := by simpa using h1
  rw [h2] at HIW HP
  rw [decide_eq_false h1, Bool.false_or, Bool.false_and] at HP
  clear ho h1 h2
  go_enter Tryz.func37, Tryz.ntmps37
  go_wp2_with (go_at_call 59; refine (HIW.out _).mono ?_; rintro e w8 ⟨rfl, rfl⟩)
  go_ret
  exact ⟨ret_int (by rw [HP.out]; rfl), ((Below.refl _ _).alloc (Nat.le_refl _) _).alloc (by simp) _⟩
set_option maxHeartbeats 2000000 in
theorem check_4 (n owner need turns : Int) (came : List Int) (there : Bool) (p : Option Addr) (c : Nat) (w : World) (hsl : SlAt w p c came) (hm : came.length ≤ 17592186043904) :
  Calls Tryz.prog 37 #[(Ce.mk 4 n owner need came turns there).val p c] w fun e w' => e = .returned (i64 (ckP ⟨4, n, owner, need, came, turns, there⟩)) ∧ Below w.heap.size w w' := by
 unfold Ce.val
 dsimp only
 have HSM := hid (fun w1 (h : SlAt w1 p c came) => same_any ⟨4, n, owner, need, came, turns, there⟩ ⟨4, n, -1, 0, [], 0, there⟩ p none c 0 w1 h (slat_nil w1))
 unfold Ce.val at HSM
 dsimp only [List.length_nil] at HSM
 have HP : Hid (ckP ⟨4, n, owner, need, came, turns, there⟩ = if (there || decide (n = 0)) && decide ((⟨4, n, owner, need, came, turns, there⟩ : Ce) = ⟨4, n, -1, 0, [], 0, there⟩) = true then 0 else 230) := by
  simp [Hid, ckP, okP, and_assoc]
 cases there with
 | true =>
  cases hd : decide ((⟨4, n, owner, need, came, turns, true⟩ : Ce) = ⟨4, n, -1, 0, [], 0, true⟩) <;>
  ·rw [hd] at HSM HP
   clear hd
   go_enter Tryz.func37, Tryz.ntmps37
   go_wp2
   go_region
   go_wp2_with (go_at_call 61; refine (HSM.out _ ((hsl.alloc _).alloc _).drew).mono ?_; rintro e w9 ⟨rfl, hb9⟩)
   go_ret
   exact ⟨ret_int (by rw [HP.out]; rfl), ((((Below.refl _ _).alloc (Nat.le_refl _) _).alloc (by simp) _).drew).trans (hb9.mono (by simp; omega))⟩
 | false =>
  by_cases h1 : n = 0
  ·have e1 : (n == 0) = true := by simpa using h1
   rw [decide_eq_true h1] at HP
   clear h1
   cases hd : decide ((⟨4, n, owner, need, came, turns, false⟩ : Ce) = ⟨4, n, -1, 0, [], 0, false⟩) <;>
   ·rw [hd] at HSM HP
    clear hd
    go_enter Tryz.func37, Tryz.ntmps37
    go_wp2
    go_region
    go_wp2_with (go_at_call 61; refine (HSM.out _ ((hsl.alloc _).alloc _).drew).mono ?_; rintro e w9 ⟨rfl, hb9⟩)
    go_ret
    exact ⟨ret_int (by rw [HP.out]; rfl), ((((Below.refl _ _).alloc (Nat.le_refl _) _).alloc (by simp) _).drew).trans (hb9.mono (by simp; omega))⟩
  ·have e1 : (n == 0) = false := by simpa using h1
   rw [decide_eq_false h1] at HP
   clear h1 HSM
   go_enter Tryz.func37, Tryz.ntmps37
   go_wp2
   go_region
   go_wp2
   go_ret
   exact ⟨ret_int (by rw [HP.out]; rfl), (((Below.refl _ _).alloc (Nat.le_refl _) _).alloc (by simp) _).drew⟩
set_option maxHeartbeats 2000000 in
theorem check_3 (n owner need turns : Int) (came : List Int) (there : Bool) (p : Option Addr) (c : Nat) (w : World) (hsl : SlAt w p c came) (hm : came.length ≤ 17592186043904) :
  Calls Tryz.prog 37 #[(Ce.mk 3 n owner need came turns there).val p c] w fun e w' => e = .returned (i64 (ckP ⟨3, n, owner, need, came, turns, there⟩)) ∧ Below w.heap.size w w' := by
 unfold Ce.val
 dsimp only
 have HSM := hid (fun w1 (h : SlAt w1 p c came) => same_any ⟨3, n, owner, need, came, turns, there⟩ ⟨3, 0, -1, need, came, turns, false⟩ p p c c w1 h h)
 have HG := hid (fun w1 (h : SlAt w1 p c came) => gate_any ⟨3, n, owner, need, came, turns, there⟩ p c w1 h hm)
 unfold Ce.val at HSM HG
 dsimp only at HSM HG
 have HP : Hid (ckP ⟨3, n, owner, need, came, turns, there⟩ = if gateP ⟨3, n, owner, need, came, turns, there⟩ && decide ((⟨3, n, owner, need, came, turns, there⟩ : Ce) = ⟨3, 0, -1, need, came, turns, false⟩) = true then 0 else 230) := by
  simp [Hid, ckP, okP, and_assoc]
 cases hg : gateP ⟨3, n, owner, need, came, turns, there⟩ with
 | true =>
  rw [hg] at HG HP
  cases hd : decide ((⟨3, n, owner, need, came, turns, there⟩ : Ce) = ⟨3, 0, -1, need, came, turns, false⟩) <;>
  ·rw [hd] at HSM HP
   clear hd hg
   go_enter Tryz.func37, Tryz.ntmps37
   go_wp2
   go_region
   all_goals
    go_wp2_with (first
     | (go_at_call 60; refine (HG.out _ ((hsl.alloc _).alloc _).drew).mono ?_; rintro e w8 ⟨rfl, hb8⟩; obtain ⟨hc8, hf8⟩ := bcell hb8; have hs8 := SlAt.below ((hsl.alloc _).alloc _).drew hb8)
     | (go_at_call 61; refine (HSM.out _ hs8).mono ?_; rintro e w9 ⟨rfl, hb9⟩))
    go_ret
    exact ⟨ret_int (by rw [HP.out]; rfl), (((((Below.refl _ _).alloc (Nat.le_refl _) _).alloc (by simp) _).drew).trans (hb8.mono (by simp; omega))).trans (hb9.mono (by have := hb8.size; simp at this; omega))⟩
 | false =>
  rw [hg] at HG HP
  clear hg HSM
  go_enter Tryz.func37, Tryz.ntmps37
  go_wp2
  go_region
  all_goals
   go_wp2_with (go_at_call 60; refine (HG.out _ ((hsl.alloc _).alloc _).drew).mono ?_; rintro e w8 ⟨rfl, hb8⟩)
   go_ret
   exact ⟨ret_int (by rw [HP.out]; rfl), ((((Below.refl _ _).alloc (Nat.le_refl _) _).alloc (by simp) _).drew).trans (hb8.mono (by simp; omega))⟩
set_option maxHeartbeats 2000000 in
theorem check_x (kind n owner need turns : Int) (came : List Int) (there : Bool) (hk : kind ≠ 1 ∧ kind ≠ 2 ∧ kind ≠ 3 ∧ kind ≠ 4) (p : Option Addr) (c : Nat) (w : World) (hsl : SlAt w p c came) (hm : came.length ≤ 17592186043904) :
  Calls Tryz.prog 37 #[(Ce.mk kind n owner need came turns there).val p c] w fun e w' => e = .returned (i64 (ckP ⟨kind, n, owner, need, came, turns, there⟩)) ∧ Below w.heap.size w w' := by
 unfold Ce.val
 dsimp only
 obtain ⟨k1, k2, k3, k4⟩ := hk
 have e1 : (kind == 1) = false := by simpa using k1
 have e2 : (kind == 2) = false := by simpa using k2
 have e3 : (kind == 3) = false := by simpa using k3
 have e4 : (kind == 4) = false := by simpa using k4
 have HP : Hid (ckP ⟨kind, n, owner, need, came, turns, there⟩ = 230) := by simp [Hid, ckP, okP, k1, k2, k3, k4]
 clear k1 k2 k3 k4 hsl
 go_enter Tryz.func37, Tryz.ntmps37
 go_wp2
 go_ret
 exact ⟨ret_int (by rw [HP.out]), ((Below.refl _ _).alloc (Nat.le_refl _) _).alloc (by simp) _⟩
theorem check_any (x : Ce) (p : Option Addr) (c : Nat) (w : World) (hsl : SlAt w p c x.came) (hm : x.came.length ≤ 17592186043904) :
  Calls Tryz.prog 37 #[x.val p c] w fun e w' => e = .returned (i64 (ckP x)) ∧ Below w.heap.size w w' := by
 obtain ⟨kind, n, owner, need, came, turns, there⟩ := x
 dsimp only at hsl hm
 by_cases k1 : kind = 1
 ·subst k1; exact check_1 n owner need turns came there p c w hsl hm
 ·by_cases k2 : kind = 2
  ·subst k2; exact check_2 n owner need turns came there p c w hsl hm
  ·by_cases k3 : kind = 3
   ·subst k3; exact check_3 n owner need turns came there p c w hsl hm
   ·by_cases k4 : kind = 4
    ·subst k4; exact check_4 n owner need turns came there p c w hsl hm
    ·exact check_x kind n owner need turns came there ⟨k1, k2, k3, k4⟩ p c w hsl hm
end Go.Proofs.YtabkmdhkfbcldaaGreat
namespace Go.Proofs.YtabkmdhkfbcldaaGreat
open Go.RowKit
end Go.Proofs.YtabkmdhkfbcldaaGreat
namespace Go.Proofs.YtabkmdhkfbcldaaGreat
open Go.RowKit
theorem grown_set (w : World) (b o : Nat) (v : Value) : w.grownBy (w.setCell ⟨b, o, none⟩ v) (some b) :=
 ⟨rfl, rfl, rfl, by simp, fun i _ hi => Below.heap_setCell w _ v i (fun e => hi (by rw [e]))⟩
theorem CeBlk.alloc {w : World} {b : Nat} {x : Ce} {p : Option Addr} {c : Nat} (h : CeBlk w b x p c) (o : Obj) : CeBlk (w.alloc o) b x p c :=
 (Below.heap_alloc w o b (Array.getElem?_eq_some_iff.1 h).1).trans h
theorem CeBlk.drew {w : World} {b : Nat} {x : Ce} {p : Option Addr} {c : Nat} (h : CeBlk w b x p c) : CeBlk w.drew b x p c := h
theorem CeBlk.below {w w' : World} {b : Nat} {x : Ce} {p : Option Addr} {c : Nat} (h : CeBlk w b x p c) (hb : Below w.heap.size w w') : CeBlk w' b x p c :=
 (hb.block b (Array.getElem?_eq_some_iff.1 h).1).trans h
theorem CeBlk.grown {w w' : World} {b : Nat} {row : Option Nat} {x : Ce} {p : Option Addr} {c : Nat} (h : CeBlk w b x p c) (hg : w.grownBy w' row) (hr : some b ≠ row) : CeBlk w' b x p c :=
 (hg.block b (Array.getElem?_eq_some_iff.1 h).1 hr).trans h
theorem CeBlk.setN {w : World} {b : Nat} {x : Ce} {p : Option Addr} {c : Nat} (h : CeBlk w b x p c) (m : Int) : CeBlk (w.setCell ⟨b, 1, none⟩ (i64 m)) b { x with n := m } p c := heap_setCell_same w b 1 _ _ _ h
theorem CeBlk.setOwner {w : World} {b : Nat} {x : Ce} {p : Option Addr} {c : Nat} (h : CeBlk w b x p c) (m : Int) : CeBlk (w.setCell ⟨b, 2, none⟩ (i64 m)) b { x with owner := m } p c := heap_setCell_same w b 2 _ _ _ h
theorem CeBlk.setCame {w : World} {b : Nat} {x : Ce} {p : Option Addr} {c : Nat} (h : CeBlk w b x p c) (l : List Int) (p' : Option Addr) (c' : Nat) : CeBlk (w.setCell ⟨b, 4, none⟩ (.slice p' l.length c')) b { x with came := l } p' c' := heap_setCell_same w b 4 _ _ _ h
theorem CeBlk.setTurns {w : World} {b : Nat} {x : Ce} {p : Option Addr} {c : Nat} (h : CeBlk w b x p c) (m : Int) : CeBlk (w.setCell ⟨b, 5, none⟩ (i64 m)) b { x with turns := m } p c := heap_setCell_same w b 5 _ _ _ h
theorem CeBlk.setThere {w : World} {b : Nat} {x : Ce} {p : Option Addr} {c : Nat} (h : CeBlk w b x p c) (m : Bool) : CeBlk (w.setCell ⟨b, 6, none⟩ (.bool m)) b { x with there := m } p c := heap_setCell_same w b 6 _ _ _ h
theorem SlAt.set {w : World} {p : Option Addr} {c : Nat} {l : List Int} (h : SlAt w p c l) (b o : Nat) (v : Value) (hne : ∀ q, p = some q → q.block ≠ b) : SlAt (w.setCell ⟨b, o, none⟩ v) p c l :=
 ⟨h.1, h.2.1, h.2.2.1, h.2.2.2.set_other _ _ hne⟩
def StepTell (b : Nat) (p : Option Addr) (c : Nat) (r : Ce × Int × Int) (w : World) (e : Ending) (w' : World) : Prop :=
 e = .returned (.tuple #[i64 r.2.1, i64 r.2.2]) ∧ (CeBlk w' b r.1 p c ∧ SlAt w' p c r.1.came) ∧ w.grownBy w' (some b)
theorem flag_any (t : Bool) (w : World) : Calls Tryz.prog 95 #[.bool t] w fun e w' => e = .returned (i64 (if t then 1 else 0)) ∧ w = w' := by
 cases t <;>
 ·go_enter Tryz.func95, Tryz.ntmps95
  go_wp2
  go_ret
  exact ⟨rfl, rfl⟩
theorem gtr {a b c : World} {row : Option Nat} (h : a.grownBy b row) (k : b.grownBy c row) : a.grownBy c row :=
 ⟨k.os.trans h.os, k.tape.trans h.tape, k.output.trans h.output, Nat.le_trans h.size k.size, fun i hi hr => (k.block i (Nat.lt_of_lt_of_le hi h.size) hr).trans (h.block i hi hr)⟩
theorem grown_al (w : World) (o : Obj) (b : Nat) : w.grownBy (w.alloc o) (some b) := World.grownBy_alloc w o _
theorem grown_dr (w : World) (b : Nat) : w.grownBy w.drew (some b) := ⟨rfl, rfl, rfl, Nat.le_refl _, fun _ _ _ => rfl⟩
set_option maxHeartbeats 2000000 in
theorem number_any (x : Ce) (hx : x.kind = 1) (wk : Int) (a : Ac) (b : Nat) (p : Option Addr) (c : Nat) (w : World) (h : CeBlk w b x p c) (hs : SlAt w p c x.came) (hne : ∀ q, p = some q → q.block ≠ b) :
  Calls Tryz.prog 72 #[.pointer (some ⟨b, 0, none⟩), a.val] w (StepTell b p c (stepP x wk a) w) := by
 obtain ⟨kind, n, owner, need, came, turns, there⟩ := x
 obtain ⟨ak, ac, ao, an⟩ := a
 dsimp only at hx hs
 subst hx
 unfold Ac.val
 dsimp only
 have H := hid h
 obtain ⟨⟨k0, k1, k2, k3, k4, k5, k6⟩, kf, kl⟩ := h.facts
 clear h
 dsimp only at k0 k1 k2 k3 k4 k5 k6
 by_cases h1 : ak = 1
 ·subst h1
  go_enter Tryz.func72, Tryz.ntmps72
  go_wp2
  go_ret2
  exact ⟨rfl, ⟨H.out.alloc _, hs.alloc _⟩, grown_al _ _ _⟩
 ·by_cases h2 : ak = 2
  ·subst h2
   clear h1
   by_cases hn : n = ao
   ·have e1 : (n == ao) = true := by simpa using hn
    have HP : Hid (stepP ⟨1, n, owner, need, came, turns, there⟩ wk ⟨2, ac, ao, an⟩ = (⟨1, an, owner, need, came, turns, there⟩, 1, 0)) := by simp [Hid, stepP, hn]
    clear hn
    go_enter Tryz.func72, Tryz.ntmps72
    go_wp2_with (go_at_call 95; refine (flag_any _ _).mono ?_; rintro e w1 ⟨rfl, rfl⟩)
    go_ret2
    rw [HP.out]
    exact ⟨rfl, ⟨(H.out.setN an).alloc _, (hs.set b 1 _ hne).alloc _⟩, gtr (grown_set w b 1 _) (grown_al _ _ _)⟩
   ·have e1 : (n == ao) = false := by simpa using hn
    have HP : Hid (stepP ⟨1, n, owner, need, came, turns, there⟩ wk ⟨2, ac, ao, an⟩ = (⟨1, n, owner, need, came, turns, there⟩, 0, 0)) := by simp [Hid, stepP, hn]
    clear hn
    go_enter Tryz.func72, Tryz.ntmps72
    go_wp2_with (go_at_call 95; refine (flag_any _ _).mono ?_; rintro e w1 ⟨rfl, rfl⟩)
    go_ret2
    rw [HP.out]
    exact ⟨rfl, ⟨H.out.alloc _, hs.alloc _⟩, grown_al _ _ _⟩
  ·by_cases h9 : ak = 9
   ·subst h9
    clear h1 h2
    have HP : Hid (stepP ⟨1, n, owner, need, came, turns, there⟩ wk ⟨9, ac, ao, an⟩ = (⟨1, wrap64 (n + an), owner, need, came, turns, there⟩, n, 0)) := by simp [Hid, stepP]
    go_enter Tryz.func72, Tryz.ntmps72
    go_wp2
    go_region
    go_wp2
    go_ret2
    rw [HP.out]
    exact ⟨rfl, ⟨((H.out.setN _).alloc _).drew, ((hs.set b 1 _ hne).alloc _).drew⟩, gtr (gtr (grown_set w b 1 _) (grown_al _ _ _)) (grown_dr _ _)⟩
   ·have e1 : (ak == 1) = false := by simpa using h1
    have e2 : (ak == 2) = false := by simpa using h2
    have e9 : (ak == 9) = false := by simpa using h9
    have HP : Hid (stepP ⟨1, n, owner, need, came, turns, there⟩ wk ⟨ak, ac, ao, an⟩ = (⟨1, n, owner, need, came, turns, there⟩, 0, 230)) := by simp [Hid, stepP, h1, h2, h9]
    clear h1 h2 h9
    go_enter Tryz.func72, Tryz.ntmps72
    go_wp2
    go_ret2
    rw [HP.out]
    exact ⟨rfl, ⟨H.out.alloc _, hs.alloc _⟩, grown_al _ _ _⟩
end Go.Proofs.YtabkmdhkfbcldaaGreat
namespace Go.Proofs.YtabkmdhkfbcldaaGreat
open Go.RowKit
set_option maxHeartbeats 2000000 in
theorem lock_any (x : Ce) (hx : x.kind = 2) (wk : Int) (a : Ac) (b : Nat) (p : Option Addr) (c : Nat) (w : World) (h : CeBlk w b x p c) (hs : SlAt w p c x.came) (hne : ∀ q, p = some q → q.block ≠ b) :
  Calls Tryz.prog 73 #[.pointer (some ⟨b, 0, none⟩), i64 wk, a.val] w (StepTell b p c (stepP x wk a) w) := by
 obtain ⟨kind, n, owner, need, came, turns, there⟩ := x
 obtain ⟨ak, ac, ao, an⟩ := a
 dsimp only at hx hs
 subst hx
 unfold Ac.val
 dsimp only
 have H := hid h
 obtain ⟨⟨k0, k1, k2, k3, k4, k5, k6⟩, kf, kl⟩ := h.facts
 clear h
 dsimp only at k0 k1 k2 k3 k4 k5 k6
 by_cases h3 : ak = 3
 ·subst h3
  by_cases ho : owner = wk
  ·have e1 : (owner == wk) = true := by simpa using ho
   have e1' : (owner != wk) = false := by simpa using ho
   have HP : Hid (stepP ⟨2, n, owner, need, came, turns, there⟩ wk ⟨3, ac, ao, an⟩ = (⟨2, n, owner, need, came, turns, there⟩, 0, 232)) := by simp [Hid, stepP, ho]
   clear ho
   go_enter Tryz.func73, Tryz.ntmps73
   go_wp2
   go_ret2
   rw [HP.out]
   exact ⟨rfl, ⟨H.out.alloc _, hs.alloc _⟩, grown_al _ _ _⟩
  ·have e1 : (owner == wk) = false := by simpa using ho
   have e1' : (owner != wk) = true := by simpa using ho
   by_cases hn : owner = -1
   ·have e2 : (owner != -1) = false := by simpa using hn
    have HP : Hid (stepP ⟨2, n, owner, need, came, turns, there⟩ wk ⟨3, ac, ao, an⟩ = (⟨2, n, wk, need, came, turns, there⟩, 0, 0)) := by simp only [Hid, stepP, if_neg ho, if_pos hn]; simp
    clear ho hn
    go_enter Tryz.func73, Tryz.ntmps73
    go_wp2
    go_ret2
    rw [HP.out]
    exact ⟨rfl, ⟨(H.out.setOwner wk).alloc _, (hs.set b 2 _ hne).alloc _⟩, gtr (grown_set w b 2 _) (grown_al _ _ _)⟩
   ·have e2 : (owner != -1) = true := by simpa using hn
    have HP : Hid (stepP ⟨2, n, owner, need, came, turns, there⟩ wk ⟨3, ac, ao, an⟩ = (⟨2, n, owner, need, came, turns, there⟩, 0, 231)) := by simp [Hid, stepP, ho, hn]
    clear ho hn
    go_enter Tryz.func73, Tryz.ntmps73
    go_wp2
    go_ret2
    rw [HP.out]
    exact ⟨rfl, ⟨H.out.alloc _, hs.alloc _⟩, grown_al _ _ _⟩
 ·by_cases h4 : ak = 4
  ·subst h4
   clear h3
   by_cases ho : owner = wk
   ·have e1 : (owner == wk) = true := by simpa using ho
    have e1' : (owner != wk) = false := by simpa using ho
    have HP : Hid (stepP ⟨2, n, owner, need, came, turns, there⟩ wk ⟨4, ac, ao, an⟩ = (⟨2, n, -1, need, came, turns, there⟩, 0, 0)) := by simp [Hid, stepP, ho]
    clear ho
    go_enter Tryz.func73, Tryz.ntmps73
    go_wp2
    go_ret2
    rw [HP.out]
    exact ⟨rfl, ⟨(H.out.setOwner (-1)).alloc _, (hs.set b 2 _ hne).alloc _⟩, gtr (grown_set w b 2 _) (grown_al _ _ _)⟩
   ·have e1 : (owner == wk) = false := by simpa using ho
    have e1' : (owner != wk) = true := by simpa using ho
    have HP : Hid (stepP ⟨2, n, owner, need, came, turns, there⟩ wk ⟨4, ac, ao, an⟩ = (⟨2, n, owner, need, came, turns, there⟩, 0, 232)) := by simp [Hid, stepP, ho]
    clear ho
    go_enter Tryz.func73, Tryz.ntmps73
    go_wp2
    go_ret2
    rw [HP.out]
    exact ⟨rfl, ⟨H.out.alloc _, hs.alloc _⟩, grown_al _ _ _⟩
  ·have e3 : (ak == 3) = false := by simpa using h3
   have e4 : (ak == 4) = false := by simpa using h4
   have HP : Hid (stepP ⟨2, n, owner, need, came, turns, there⟩ wk ⟨ak, ac, ao, an⟩ = (⟨2, n, owner, need, came, turns, there⟩, 0, 230)) := by simp [Hid, stepP, h3, h4]
   clear h3 h4
   go_enter Tryz.func73, Tryz.ntmps73
   go_wp2
   go_ret2
   rw [HP.out]
   exact ⟨rfl, ⟨H.out.alloc _, hs.alloc _⟩, grown_al _ _ _⟩
set_option maxHeartbeats 2000000 in
theorem future_any (x : Ce) (hx : x.kind = 4) (wk : Int) (a : Ac) (b : Nat) (p : Option Addr) (c : Nat) (w : World) (h : CeBlk w b x p c) (hs : SlAt w p c x.came) (hne : ∀ q, p = some q → q.block ≠ b) :
  Calls Tryz.prog 75 #[.pointer (some ⟨b, 0, none⟩), a.val] w (StepTell b p c (stepP x wk a) w) := by
 obtain ⟨kind, n, owner, need, came, turns, there⟩ := x
 obtain ⟨ak, ac, ao, an⟩ := a
 dsimp only at hx hs
 subst hx
 unfold Ac.val
 dsimp only
 have H := hid h
 obtain ⟨⟨k0, k1, k2, k3, k4, k5, k6⟩, kf, kl⟩ := h.facts
 clear h
 dsimp only at k0 k1 k2 k3 k4 k5 k6
 by_cases h7 : ak = 7
 ·subst h7
  cases there with
  | true =>
   go_enter Tryz.func75, Tryz.ntmps75
   go_wp2
   go_ret2
   exact ⟨rfl, ⟨H.out.alloc _, hs.alloc _⟩, grown_al _ _ _⟩
  | false =>
   go_enter Tryz.func75, Tryz.ntmps75
   go_wp2
   go_region
   all_goals
    go_wp2
    go_ret2
    exact ⟨rfl, ⟨(((H.out.setThere true).setN an).alloc _).drew, (((hs.set b 6 _ hne).set b 1 _ hne).alloc _).drew⟩, gtr (gtr (gtr (grown_set w b 6 _) (grown_set _ b 1 _)) (grown_al _ _ _)) (grown_dr _ _)⟩
 ·by_cases h8 : ak = 8
  ·subst h8
   clear h7
   cases there with
   | true =>
    go_enter Tryz.func75, Tryz.ntmps75
    go_wp2
    go_ret2
    exact ⟨rfl, ⟨H.out.alloc _, hs.alloc _⟩, grown_al _ _ _⟩
   | false =>
    go_enter Tryz.func75, Tryz.ntmps75
    go_wp2
    go_ret2
    exact ⟨rfl, ⟨H.out.alloc _, hs.alloc _⟩, grown_al _ _ _⟩
  ·have e3 : (ak == 7) = false := by simpa using h7
   have e4 : (ak == 8) = false := by simpa using h8
   have HP : Hid (stepP ⟨4, n, owner, need, came, turns, there⟩ wk ⟨ak, ac, ao, an⟩ = (⟨4, n, owner, need, came, turns, there⟩, 0, 230)) := by simp [Hid, stepP, h7, h8]
   clear h7 h8
   go_enter Tryz.func75, Tryz.ntmps75
   go_wp2
   go_ret2
   rw [HP.out]
   exact ⟨rfl, ⟨H.out.alloc _, hs.alloc _⟩, grown_al _ _ _⟩
end Go.Proofs.YtabkmdhkfbcldaaGreat
namespace Go.Proofs.YtabkmdhkfbcldaaGreat
open Go.RowKit
def StepTellB (B b : Nat) (r : Ce × Int × Int) (w : World) (e : Ending) (w' : World) : Prop :=
 e = .returned (.tuple #[i64 r.2.1, i64 r.2.2]) ∧ (∃ p c, CeBlk w' b r.1 p c ∧ SlAt w' p c r.1.came ∧ ∀ q, p = some q → B ≤ q.block ∧ q.block < w'.heap.size) ∧ Below B w w'
theorem StepTell.toB {B b : Nat} {p : Option Addr} {c : Nat} {r : Ce × Int × Int} {w : World} {e : Ending} {w' : World} (h : StepTell b p c r w e w') (hge : ∀ q, p = some q → B ≤ q.block ∧ q.block < w.heap.size) (hb : B ≤ b) (hw : B ≤ w.heap.size) : StepTellB B b r w e w' :=
 ⟨h.1, ⟨p, c, h.2.1.1, h.2.1.2, fun q hq => ⟨(hge q hq).1, Nat.lt_of_lt_of_le (hge q hq).2 h.2.2.size⟩⟩, (Below.refl _ _).grown h.2.2 hw (fun k e => by cases e; exact hb)⟩
theorem own_drew {w : World} {base : Nat} {e : TypeId} {size : Nat} {v : Value} {n : Nat} {xs : List Value} (h : w.ownsRow base e size v n xs) : w.drew.ownsRow base e size v n xs := h
theorem CeBlk.setSl {w : World} {b : Nat} {x : Ce} {p : Option Addr} {c : Nat} (h : CeBlk w b x p c) (l : List Int) (n : Nat) (hn : n = l.length) (p' : Option Addr) (c' : Nat) : CeBlk (w.setCell ⟨b, 4, none⟩ (.slice p' n c')) b { x with came := l } p' c' := by
 subst hn; exact h.setCame l p' c'
set_option maxHeartbeats 4000000 in
theorem barrier_any (x : Ce) (hx : x.kind = 3) (wk : Int) (a : Ac) (B b : Nat) (p : Option Addr) (c : Nat) (w : World) (h : CeBlk w b x p c) (ho : w.ownsRow B 3 1 (.slice p x.came.length c) x.came.length (i64s x.came)) (hne : ∀ q, p = some q → q.block ≠ b)
  (hB : B ≤ b) (ht0 : 0 ≤ x.turns) (ht1 : x.turns ≤ 1152921504606846976) (hl : x.came.length ≤ 64) :
  Calls Tryz.prog 74 #[.pointer (some ⟨b, 0, none⟩), i64 wk, a.val] w (StepTellB B b (stepP x wk a) w) := by
 obtain ⟨kind, n, owner, need, came, turns, there⟩ := x
 obtain ⟨ak, ac, ao, an⟩ := a
 dsimp only at hx ho ht0 ht1 hl
 subst hx
 unfold Ac.val
 dsimp only
 have hs := own_slat ho
 have H := hid h
 obtain ⟨⟨k0, k1, k2, k3, k4, k5, k6⟩, kf, kl⟩ := h.facts
 clear h
 dsimp only at k0 k1 k2 k3 k4 k5 k6
 have hBw : B ≤ w.heap.size := by omega
 have HGB := hid (own_ge ho)
 have HLB := hid (own_lt ho)
 have FIN := hid (fun (w' : World) (v e : Int) (hg : w.grownBy w' (some b)) (hk : CeBlk w' b ⟨3, n, owner, need, came, turns, there⟩ p c) (hs : SlAt w' p c came) (r : Ce × Int × Int) (hr : r = (⟨3, n, owner, need, came, turns, there⟩, v, e)) =>
  show StepTellB B b r w (.returned (.tuple #[i64 v, i64 e])) w' by
   subst hr
   exact ⟨rfl, ⟨p, c, hk, hs, fun q hq => ⟨HGB.out q.block (by subst hq; rfl), Nat.lt_of_lt_of_le (HLB.out q.block (by subst hq; rfl)) hg.size⟩⟩, (Below.refl _ _).grown hg hBw (fun k e => by cases e; exact hB)⟩)
 by_cases h6 : ak = 6
 ·subst h6
  by_cases ht : turns ≤ ao
  ·have e1 : decide (turns ≤ ao) = true := by simpa using ht
   have HP : Hid (stepP ⟨3, n, owner, need, came, turns, there⟩ wk ⟨6, ac, ao, an⟩ = (⟨3, n, owner, need, came, turns, there⟩, 0, 231)) := by simp [Hid, stepP, ht]
   clear ht
   go_enter Tryz.func74, Tryz.ntmps74
   go_wp2
   go_region
   all_goals
    go_wp2
    go_ret2
    exact FIN.out _ _ _ (gtr (grown_al _ _ _) (grown_dr _ _)) (H.out.alloc _).drew (hs.alloc _).drew _ HP.out
  ·have e1 : decide (turns ≤ ao) = false := by simpa using ht
   have HP : Hid (stepP ⟨3, n, owner, need, came, turns, there⟩ wk ⟨6, ac, ao, an⟩ = (⟨3, n, owner, need, came, turns, there⟩, turns, 0)) := by simp [Hid, stepP, ht]
   clear ht
   go_enter Tryz.func74, Tryz.ntmps74
   go_wp2
   go_region
   all_goals
    go_wp2
    go_ret2
    exact FIN.out _ _ _ (gtr (grown_al _ _ _) (grown_dr _ _)) (H.out.alloc _).drew (hs.alloc _).drew _ HP.out
 ·have e6 : (ak == 6) = false := by simpa using h6
  by_cases h5 : ak = 5
  ·subst h5
   clear h6 e6
   have HCON := hid (fun w1 (hr : Row w1 p (i64s came)) => containsI_any p c came wk w1 (by unfold maxLen; omega) hr)
   cases hct : came.contains wk with
   | true =>
    rw [hct] at HCON
    have HP : Hid (stepP ⟨3, n, owner, need, came, turns, there⟩ wk ⟨5, ac, ao, an⟩ = (⟨3, n, owner, need, came, turns, there⟩, 0, 232)) := by simp only [Hid, stepP, hct]; simp
    clear hct
    go_enter Tryz.func74, Tryz.ntmps74
    go_wp2
    go_region
    all_goals
     go_wp2_with (go_at_call 70; refine (HCON.out _ (hs.alloc _).drew.2.2.2).mono ?_; rintro e w1 ⟨rfl, rfl⟩)
     go_ret2
     exact FIN.out _ _ _ (gtr (grown_al _ _ _) (grown_dr _ _)) (H.out.alloc _).drew (hs.alloc _).drew _ HP.out
   | false =>
    rw [hct] at HCON
    by_cases hmx : turns = 1152921504606846976
    ·have e2 : (turns == 1152921504606846976) = true := by simpa using hmx
     have HP : Hid (stepP ⟨3, n, owner, need, came, turns, there⟩ wk ⟨5, ac, ao, an⟩ = (⟨3, n, owner, need, came, turns, there⟩, 0, 8)) := by simp only [Hid, stepP, hct, hmx]; simp
     clear hct hmx
     go_enter Tryz.func74, Tryz.ntmps74
     go_wp2
     go_region
     all_goals
      go_wp2_with (go_at_call 70; refine (HCON.out _ (hs.alloc _).drew.2.2.2).mono ?_; rintro e w1 ⟨rfl, rfl⟩)
      go_ret2
      exact FIN.out _ _ _ (gtr (grown_al _ _ _) (grown_dr _ _)) (H.out.alloc _).drew (hs.alloc _).drew _ HP.out
    ·have e2 : (turns == 1152921504606846976) = false := by simpa using hmx
     have ht2 : turns < 1152921504606846976 := by omega
     have hbv : some b ≠ (Value.slice p came.length c).ownBlock := fun e => by
      cases p with
      | none => simp [Value.ownBlock] at e
      | some q => simp [Value.ownBlock] at e; exact hne q rfl e.symm
     have HGE := hid (own_ge ho)
     by_cases hfull : (came.length : Int) + 1 = need
     ·have e3 : ((came.length : Int) + 1 == need) = true := by simpa using hfull
      have HP : Hid (stepP ⟨3, n, owner, need, came, turns, there⟩ wk ⟨5, ac, ao, an⟩ = (⟨3, n, owner, need, [], turns + 1, there⟩, turns, 0)) := by simp only [Hid, stepP, hct, if_neg hmx, if_pos hfull]; simp
      clear hct hmx hfull
      go_enter Tryz.func74, Tryz.ntmps74
      go_wp2
      go_region
      all_goals
       go_wp2_with (first
        | (go_at_call 70; refine (HCON.out _ (hs.alloc _).drew.2.2.2).mono ?_; rintro e w1 ⟨rfl, rfl⟩)
        | ((with_reducible show wpList _ _ _ (⟨some 58, _, _, _, _, _⟩ :: _) _ _); go_loud (refine wpList_app EI rfl _ _ rfl B (.slice p came.length c) came.length (i64s came) rfl ((own_drew (ho.alloc _)).alloc _) _ 1 1 [i64 wk] rfl rfl (by simp) (row_newAt _ _ _ _ (by simp)) (by simp [Value.oneCell']) (by unfold maxLen; omega) (by omega) (by simp; omega) ?_); intro v2 w4 ho4 hg4 hs4; have HK4 := hid ((((H.out.alloc _).drew).alloc _).grown hg4 hbv); have HO4 := hid ho4; obtain ⟨p4, c4, rfl, hr4⟩ := own_shape ho4; obtain ⟨⟨q0, q1, q2, q3, q4, q5, q6⟩, qf, ql⟩ := HK4.out.facts; dsimp only at q0 q1 q2 q3 q4 q5 q6))
       have hbw4 : Below B w w4 := (((((Below.refl B w).alloc hBw _).drew).alloc (by simp; omega) _).grown hg4 (by simp; omega) (fun k e => HGE.out k e))
       go_region
       go_wp2
       go_ret2
       rw [HP.out]
       exact ⟨rfl, ⟨none, 0, (((HK4.out.setSl (came ++ [wk]) _ (by simp) p4 c4).setCame [] none 0).setTurns (turns + 1)).drew, slat_nil _, by simp⟩, (((hbw4.setCell (p := ⟨b, 4, none⟩) hB _).setCell (p := ⟨b, 4, none⟩) hB _).setCell (p := ⟨b, 5, none⟩) hB _).drew⟩
     ·have e3 : ((came.length : Int) + 1 == need) = false := by simpa using hfull
      have HP : Hid (stepP ⟨3, n, owner, need, came, turns, there⟩ wk ⟨5, ac, ao, an⟩ = (⟨3, n, owner, need, came ++ [wk], turns, there⟩, turns, 0)) := by simp only [Hid, stepP, hct, if_neg hmx, if_neg hfull]; simp
      clear hct hmx hfull
      go_enter Tryz.func74, Tryz.ntmps74
      go_wp2
      go_region
      all_goals
       go_wp2_with (first
        | (go_at_call 70; refine (HCON.out _ (hs.alloc _).drew.2.2.2).mono ?_; rintro e w1 ⟨rfl, rfl⟩)
        | ((with_reducible show wpList _ _ _ (⟨some 58, _, _, _, _, _⟩ :: _) _ _); go_loud (refine wpList_app EI rfl _ _ rfl B (.slice p came.length c) came.length (i64s came) rfl ((own_drew (ho.alloc _)).alloc _) _ 1 1 [i64 wk] rfl rfl (by simp) (row_newAt _ _ _ _ (by simp)) (by simp [Value.oneCell']) (by unfold maxLen; omega) (by omega) (by simp; omega) ?_); intro v2 w4 ho4 hg4 hs4; have HK4 := hid ((((H.out.alloc _).drew).alloc _).grown hg4 hbv); have HO4 := hid ho4; obtain ⟨p4, c4, rfl, hr4⟩ := own_shape ho4; obtain ⟨⟨q0, q1, q2, q3, q4, q5, q6⟩, qf, ql⟩ := HK4.out.facts; dsimp only at q0 q1 q2 q3 q4 q5 q6))
       have hbw4 : Below B w w4 := (((((Below.refl B w).alloc hBw _).drew).alloc (by simp; omega) _).grown hg4 (by simp; omega) (fun k e => HGE.out k e))
       have hsl4 : SlAt w4 p4 c4 (came ++ [wk]) := own_slat (n := came.length + 1) (m := came.length + 1) (by have := HO4.out; rwa [show i64s came ++ [i64 wk] = i64s (came ++ [wk]) by simp] at this)
       have hne4 : ∀ q, p4 = some q → q.block ≠ b := fun q hq e => by
        subst hq
        have := ne_stayed hs4 (fun e => hbv e.symm) (by simp; omega)
        exact this (by simp [Value.ownBlock, e])
       go_region
       go_wp2
       go_ret2
       rw [HP.out]
       exact ⟨rfl, ⟨p4, c4, (HK4.out.setSl (came ++ [wk]) _ (by simp) p4 c4).drew, (hsl4.set b 4 _ hne4).drew, fun q hq => ⟨own_ge HO4.out q.block (by subst hq; rfl), by have := own_lt HO4.out q.block (by subst hq; rfl); simp; omega⟩⟩, ((hbw4.setCell (p := ⟨b, 4, none⟩) hB _)).drew⟩
  ·have e5 : (ak == 5) = false := by simpa using h5
   have HP : Hid (stepP ⟨3, n, owner, need, came, turns, there⟩ wk ⟨ak, ac, ao, an⟩ = (⟨3, n, owner, need, came, turns, there⟩, 0, 230)) := by simp [Hid, stepP, h5, h6]
   clear h5 h6
   go_enter Tryz.func74, Tryz.ntmps74
   go_wp2
   go_region
   all_goals
    go_wp2
    go_ret2
    exact FIN.out _ _ _ (gtr (grown_al _ _ _) (grown_dr _ _)) (H.out.alloc _).drew (hs.alloc _).drew _ HP.out
end Go.Proofs.YtabkmdhkfbcldaaGreat
