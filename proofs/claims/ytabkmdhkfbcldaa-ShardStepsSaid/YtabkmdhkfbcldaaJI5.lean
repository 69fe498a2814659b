/-
  ShardFirst: what its walk wants of the run.
  Lists of work as they come in.
  ShardFirst: the walk.
-/
import Derived.Test.YtabkmdhkfbcldaaJI1
import Derived.Test.YtabkmdhkfbcldaaJI4
import Derived.Test.YtabkmdhkfbcldaaJH0
import Derived.Test.YtabkmdhkfbcldaaJI0
namespace Go.Proofs.Ytabkmdhkfbcldaa
open Go.RowKit
variable {w w' : World}

/-- The table of a list of works. -/
def wkOf (zs : List AkR) (n : Int) : Wk := ⟨lists zs, n.toNat, ofK n.toNat⟩
theorem wkOf_ok {zs : List AkR} {p : Nat} (h : FewOk zs p) {n : Int} (hn : newTE n (lists zs) = 0) : WkOk (wkOf zs n) := by
  obtain ⟨h1, h2, h3, h4, h5, h6⟩ := h.few hn
  have hl : (lists zs).length = zs.length := by simp [lists]
  refine ⟨(by show 1 ≤ n.toNat ∧ n.toNat ≤ 256; omega), (by show 1 ≤ (lists zs).length ∧ (lists zs).length ≤ 64; omega), fun k => ofK_is n.toNat (by omega) k, fun v a ha => ?_⟩
  unfold Wk.own at ha
  rw [List.getD_eq_getElem?_getD] at ha
  cases e : (wkOf zs n).work[v]? with
  | none => rw [e] at ha; cases ha
  | some l =>
    rw [e] at ha
    have := h5 l (List.mem_of_getElem? e) a ha
    omega
theorem wkOf_new {zs : List AkR} {n : Int} (h : ¬ (n < 1 ∨ 256 < n ∨ zs.length < 1 ∨ 64 < zs.length)) : NewK zs n (wkOf zs n) := ⟨rfl, by show ((n.toNat : Nat) : Int) = n; omega⟩
theorem wkOf_kinds {zs : List AkR} {p : Nat} (h : FewOk zs p) {n : Int} (hn : newTE n (lists zs) = 0) : ∀ v, ∀ a ∈ (wkOf zs n).own v, 1 ≤ a.kind ∧ a.kind ≤ 3 := fun v a ha => by
  obtain ⟨h1, h2, h3, h4, h5, h6⟩ := h.few hn
  unfold Wk.own at ha
  rw [List.getD_eq_getElem?_getD] at ha
  cases e : (wkOf zs n).work[v]? with
  | none => rw [e] at ha; cases ha
  | some l =>
    rw [e] at ha
    have := h6 l (List.mem_of_getElem? e)
    rw [List.any_eq_false] at this
    have hb := this a ha
    unfold akBad at hb
    simp at hb
    omega
theorem wkOf_run {zs : List AkR} {p : Nat} (h : FewOk zs p) {n : Int} (hn : newTE n (lists zs) = 0) : RunOk (wkOf zs n) 360 (Sh.start (wkOf zs n)) := by
  obtain ⟨h1, h2, h3, h4, h5, h6⟩ := h.few hn
  refine ⟨start_ok _, ?_⟩
  rw [start_left]
  show 0 + 6 * totA (lists zs) ≤ 360
  omega
theorem wkOf_own {zs : List AkR} {p : Nat} (h : FewOk zs p) {n : Int} (hn : newTE n (lists zs) = 0) (k : Nat) : ((wkOf zs n).own k).length ≤ 60 := own_le _ 60 (h.few hn).2.2.2.1 k
set_option maxRecDepth 20000 in
theorem each32 (w : World) (v : Int) : Calls Try.prog 32 #[.int .i64 v] w fun e w' => e = .returned (.bool true) ∧ w' = w := by
  go_enter Try.func32, Try.ntmps32
  go_wp2
  go_ret
  exact ⟨rfl, rfl⟩
/-- What run keeps of the code's table. -/
def JT (w0 : World) (base t : Nat) (K : Wk) (S : Sh) (W : World) : Prop := (∃ B, TOk W base t K S B) ∧ Below w0.heap.size w0 W
theorem runJ32 {w0 : World} {base t M : Nat} {K : Wk} (HK : WkOk K) (hb : w0.heap.size ≤ base) (hM : M ≤ 399) (ho : ∀ k, (K.own k).length ≤ 60) : RunJ w0 K M base t (JT w0 base t K) (fun S v W => JT w0 base t K (S.stepI K v) W) 32 (fun v => #[.int .i64 v]) :=
  ⟨fun S W h => h.1, fun S W h => h.2, fun S W W' h hb => ⟨h.1.imp fun B hT => ⟨hT.is.below hb, hT.ok, hT.pr, hT.hv⟩, h.2.trans (hb.mono h.2.size)⟩,
   fun S W v h hr => by
     obtain ⟨⟨B, hT⟩, hbe⟩ := h
     refine (step_any hT HK v (by have := hr.m; omega) (fun k => by have := ho k; omega)).mono ?_
     rintro e W' ⟨rfl, B', hT', -, -, hl⟩
     exact ⟨rfl, ⟨B', hT'⟩, hbe.trans (hl.mono hb)⟩,
   fun S W v _ _ h _ => (each32 W v).mono fun e W' ⟨h1, h2⟩ => ⟨h1, h2 ▸ h⟩⟩
theorem KSt : KeyOk Try.prog 9 Value.string := keyOk_string Try.underlying9
theorem KIn : KeyOk Try.prog 3 (Value.int .i64) := keyOk_int Try.underlying3
theorem aset_new {κ β : Type} [DecidableEq κ] {x : κ} (u : β) : ∀ {m : List (κ × β)}, alook m x = none → aset m x u = m ++ [(x, u)]
  | [], _ => rfl
  | (a, v) :: r, h => by
    by_cases e : x = a
    · simp [alook, e] at h
    · simp only [alook, if_neg e] at h
      simp only [aset, if_neg e, List.cons_append, aset_new u h]
def clV (c : Cl) : Value := .agg c.cells.toArray
def kvOf (c : Cl) : ByteArray × Int := (c.key, c.value)
/-- What ShardFirst's first loop holds. -/
structure FI (w : World) (bp bo bh : Nat) (v : Value) (calls : List Cl) (k : Nat) (wr : World) : Prop where
  put : MapIs Value.string (Value.int .i64) wr bp (((calls.take k).filter okd).map kvOf)
  opn : ∃ mo : List (Int × Cl), MapIs (Value.int .i64) clV wr bo mo ∧ ∀ v : Int, alook mo v = openBy (calls.take k) v
  row : wr.ownsRow bh 46 8 v calls.length (calls.flatMap Cl.cells)
  b : Below w.heap.size w wr
theorem FI.below {bp bo bh k : Nat} {v : Value} {calls : List Cl} {wr : World} (h : FI w bp bo bh v calls k wr) (hb : Below wr.heap.size wr w') : FI w bp bo bh v calls k w' :=
  ⟨h.put.below hb h.put.lt, h.opn.imp fun mo hm => ⟨hm.1.below hb hm.1.lt, hm.2⟩, own_below h.row hb, h.b.trans (hb.mono h.b.size)⟩
theorem map_put {κ β : Type} {mk : κ → Value} {mv : β → Value} {wr : World} {b : Nat} {m : List (κ × β)} (h : MapIs mk mv wr b m) : ∃ o : Obj, wr.heap[b]? = some o ∧ o.isCells = false := by
  obtain ⟨es, cl, he, _⟩ := h
  exact ⟨_, he, rfl⟩
/-- A call that is open. -/
theorem FI.opens {bp bo bh k : Nat} {v : Value} {calls : List Cl} {wr w2 : World} (h : FI w bp bo bh v calls k wr) (hk : k < calls.length) (hne : bp ≠ bo) (hbo : w.heap.size ≤ bo) (hto : calls[k].to < 0) {mo : List (Int × Cl)} (hmo : ∀ v : Int, alook mo v = openBy (calls.take k) v)
    (hm : MapIs (Value.int .i64) clV w2 bo (aset mo calls[k].w calls[k])) (hg : wr.grownBy w2 (some bo)) : FI w bp bo bh v calls (k + 1) w2 := by
  have e : calls.take (k + 1) = calls.take k ++ [calls[k]] := by rw [List.take_add_one, List.getElem?_eq_getElem hk]; rfl
  have hn : okd calls[k] = false := by unfold okd; simp; omega
  obtain ⟨mo0, hm0, _⟩ := h.opn
  obtain ⟨o, ho, hc⟩ := map_put hm0
  refine ⟨?_, ⟨_, hm, fun u => ?_⟩, own_keptO h.row hg ho hc, h.b.grown hg h.b.size (fun r e => by cases e; exact hbo)⟩
  · rw [e, List.filter_append]; simp only [List.filter_cons, hn, Bool.false_eq_true, if_false, List.filter_nil, List.append_nil]
    exact h.put.kept hg (fun e => hne (Option.some.inj e))
  · rw [alook_set, e, openBy_app, hmo]
    by_cases e2 : u = calls[k].w
    · rw [if_pos e2, if_pos ⟨hto, e2.symm⟩]
    · rw [if_neg e2, if_neg (fun h => e2 h.2.symm)]
/-- A call of which nothing is kept. -/
theorem FI.skip {bp bo bh k : Nat} {v : Value} {calls : List Cl} {wr : World} (h : FI w bp bo bh v calls k wr) (hk : k < calls.length) (hto : ¬ calls[k].to < 0) (hn : okd calls[k] = false) : FI w bp bo bh v calls (k + 1) wr := by
  have e : calls.take (k + 1) = calls.take k ++ [calls[k]] := by rw [List.take_add_one, List.getElem?_eq_getElem hk]; rfl
  refine ⟨?_, h.opn.imp fun mo hm => ⟨hm.1, fun u => ?_⟩, h.row, h.b⟩
  · rw [e, List.filter_append]; simp only [List.filter_cons, hn, Bool.false_eq_true, if_false, List.filter_nil, List.append_nil]; exact h.put
  · rw [e, openBy_app, if_neg (fun h => hto h.1), hm.2]
/-- A define that is OK. -/
theorem FI.puts {bp bo bh k : Nat} {v : Value} {calls : List Cl} {wr w2 : World} (h : FI w bp bo bh v calls k wr) (hk : k < calls.length) (hne : bp ≠ bo) (hbp : w.heap.size ≤ bp) (hok : okd calls[k] = true) (hnew : calls[k].key ∉ ((calls.take k).filter okd).map Cl.key)
    (hm : MapIs Value.string (Value.int .i64) w2 bp (aset (((calls.take k).filter okd).map kvOf) calls[k].key calls[k].value)) (hg : wr.grownBy w2 (some bp)) : FI w bp bo bh v calls (k + 1) w2 ∧ alook (((calls.take k).filter okd).map kvOf) calls[k].key = none := by
  have e : calls.take (k + 1) = calls.take k ++ [calls[k]] := by rw [List.take_add_one, List.getElem?_eq_getElem hk]; rfl
  have hno : alook (((calls.take k).filter okd).map kvOf) calls[k].key = none := by
    refine Decidable.byContradiction fun hc => hnew ?_
    have := alook_mem.2 hc
    rw [List.map_map] at this
    exact this
  have hto : ¬ calls[k].to < 0 := by unfold okd at hok; simp at hok; omega
  obtain ⟨o, ho, hc⟩ := map_put h.put
  refine ⟨⟨?_, h.opn.imp fun mo hm => ⟨hm.1.kept hg (fun e => hne (Option.some.inj e).symm), fun u => ?_⟩, own_keptO h.row hg ho hc, h.b.grown hg h.b.size (fun r e => by cases e; exact hbp)⟩, hno⟩
  · rw [aset_new _ hno] at hm
    rw [e, List.filter_append]
    simp only [List.filter_cons, hok, if_true, List.filter_nil, List.map_append, List.map_cons, List.map_nil]
    exact hm
  · rw [e, openBy_app, if_neg (fun h => hto h.1), hm.2]
theorem new_key {calls : List Cl} {k : Nat} {x : ByteArray} (h : x ∉ ((calls.take k).filter okd).map Cl.key) : alook (((calls.take k).filter okd).map kvOf) x = none := by
  refine Decidable.byContradiction fun hc => h ?_
  have := alook_mem.2 hc
  rw [List.map_map] at this
  exact this
theorem MapIs.run_len {κ β : Type} {P : Program} {k : TypeId} {mk : κ → Value} {mv : β → Value} {t el : TypeId} {w : World} {b : Nat} {m : List (κ × β)} (h : MapIs mk mv w b m) (ht : P.underlying t = some (.map k el)) (ty : TypeId) : (Builtin.len_ #[t] ty #[.map (some b)]).run P w = .ok (.int .i64 m.length) w := by
  obtain ⟨es, clock, hb, F, ST⟩ := h
  have e : es.size = m.length := by have := congrArg List.length F; simpa using this
  rw [← e]
  simp [Builtin.len_, run_underlying ht, MapKept.run_getObj_map hb, goInt, Result.andThen]
theorem wpList_maplen {κ β : Type} {P : Program} {k : TypeId} {mk : κ → Value} {mv : β → Value} {w : World} {ops : Array Oper} {rest : List Oper} {o : Oper} {a : Act} {Q : Exit → Act → World → Prop} {t el : TypeId} (ht : P.underlying t = some (.map k el)) (hg : o.guard = none) (mo : Operand)
    (hop : o.op = Op.call { callee := Callee.builtin Builtin.len, args := #[mo], argTypes := #[t] }) (b : Nat) (m : List (κ × β)) (hm : a.eval mo = .map (some b)) (h : MapIs mk mv w b m)
    (hK : wpList P ops Q rest (a.put o.dst (.int .i64 m.length)) w) : wpList P ops Q (o :: rest) a w := by
  refine wpList_plain hg fun K' hK' => ?_
  unfold Oper.wp
  simp [execOp, hop, resolve, invoke, builtin, hm, h.run_len ht o.type, Result.andThen]
  exact hK' _ _ hK
theorem FI.rowAt {bp bo bh k n c : Nat} {p : Option Addr} {calls : List Cl} {wr : World} (h : FI w bp bo bh (.slice p n c) calls k wr) : Row wr p (calls.flatMap Cl.cells) := by
  obtain ⟨p', c', e, hr⟩ := own_shape h.row; cases e; exact hr
theorem cl_all {w : World} {b o : Nat} {ys : List Cl} (h : Row w (some ⟨b, o, none⟩) (ys.flatMap Cl.cells)) (k : Nat) (hk : k < ys.length) :
    w.cell? ⟨b, o + k * 8, none⟩ = some (.int .i64 ys[k].w) ∧ w.cell? ⟨b, o + k * 8 + 1, none⟩ = some (.int .i64 ys[k].kind) ∧ w.cell? ⟨b, o + k * 8 + 2, none⟩ = some (.string ys[k].key) ∧ w.cell? ⟨b, o + k * 8 + 3, none⟩ = some (.int .i64 ys[k].value) ∧ w.cell? ⟨b, o + k * 8 + 4, none⟩ = some (.int .i64 ys[k].fr) ∧ w.cell? ⟨b, o + k * 8 + 5, none⟩ = some (.int .i64 ys[k].to) ∧ w.cell? ⟨b, o + k * 8 + 6, none⟩ = some (.int .i64 ys[k].ans) ∧ w.cell? ⟨b, o + k * 8 + 7, none⟩ = some (.int .i64 ys[k].err) :=
  ⟨cl_at h k hk 0 (by omega), cl_at h k hk 1 (by omega), cl_at h k hk 2 (by omega), cl_at h k hk 3 (by omega), cl_at h k hk 4 (by omega), cl_at h k hk 5 (by omega), cl_at h k hk 6 (by omega), cl_at h k hk 7 (by omega)⟩
end Go.Proofs.Ytabkmdhkfbcldaa
namespace Go.Proofs.Ytabkmdhkfbcldaa
open Go.RowKit Go.ChangeShapes Go.WideShapes Go.ChangeAt

structure Ak.ok (a : Ak) : Prop where
  key : a.key.size ≤ 140737488351232
  kind : inI64 a.kind
  value : inI64 a.value
theorem wf_u8 {n : Int} (h : (Lit.int .u8 n).wf = true) : 0 ≤ n ∧ n < 256 := by
  simp [Lit.wf, IntKind.min, IntKind.max, IntKind.bits, IntKind.signed] at h
  omega
section
variable {H : Type} {enc : TypeId × Value → H} {W : World}
theorem fieldk {ty : TypeId} {off m : Nat} {cs l : List Value} (hc : Try.prog.cellsOf ty = m) (e : List.take (Try.prog.cellsOf ty) (List.drop off cs) = l) : (cs.drop off).take m = l := by rw [← hc]; exact e
theorem opens_str {P : Program} {t : TypeId} (ht : P.underlying t = some .string) : OpensAs enc P W t (fun s : ByteArray => [Value.string s]) (fun s => s.size ≤ 140737488351232) := fun n cs y h hlt => by
  obtain ⟨s, e, hy, _⟩ := DataW.trod_string ht h
  refine ⟨s, e, ?_⟩
  have := hlt s.data.toList.length (by rw [hy]; simp [DataW.weights])
  exact this
set_option maxRecDepth 20000 in
theorem opens_ask : OpensAs enc Try.prog W 70 Ak.cells Ak.ok := fun n cs y h hlt => by
  obtain ⟨xs, k, rfl, rfl, hlen, hxl, hf⟩ := DataW.trod_struct Try.underlying70 h
  have hlen : cs.length = 3 := hlen.trans (by kernel_rfl)
  have hxl : xs.length = 3 := hxl
  have c0 : Try.prog.cellsOf 3 = 1 := by kernel_rfl
  have c1 : Try.prog.cellsOf 9 = 1 := by kernel_rfl
  have c2 : Try.prog.cellsOf 2 = 1 := by kernel_rfl
  obtain ⟨n0, e0, w0⟩ := (opens_int Try.underlying3) _ _ _ ((hf 0 _ rfl).trans (List.getElem?_eq_getElem (by omega))) (light_field Try.underlying70 hlt (j := 0) rfl (List.getElem?_eq_getElem (by omega)))
  obtain ⟨n1, e1, w1⟩ := (opens_str Try.underlying9) _ _ _ ((hf 1 _ rfl).trans (List.getElem?_eq_getElem (by omega))) (light_field Try.underlying70 hlt (j := 1) rfl (List.getElem?_eq_getElem (by omega)))
  obtain ⟨n2, e2, w2⟩ := (opens_int Try.underlying2) _ _ _ ((hf 2 _ rfl).trans (List.getElem?_eq_getElem (by omega))) (light_field Try.underlying70 hlt (j := 2) rfl (List.getElem?_eq_getElem (by omega)))
  have e0 := fieldk (off := 0) c0 e0
  have e1 := fieldk (off := 1) c1 e1
  have e2 := fieldk (off := 2) c2 e2
  match cs, hlen with
  | [v0, v1, v2], _ =>
    simp at e0 e1 e2
    subst e0 e1 e2
    exact ⟨⟨n0, n1, n2⟩, rfl, w1, wf_i64 w0, wf_i64 w2⟩
def AsksOk (W : World) (z : AkR) : Prop := z.2.2.length ≤ z.2.1 ∧ z.2.1 ≤ maxLen ∧ (z.1 = none → z.2.1 = 0) ∧ Row W z.1 (z.2.2.flatMap Ak.cells) ∧ (∀ x ∈ z.2.2, x.ok) ∧ z.2.1 * Try.prog.bytesOf 70 ≤ 140737488351232
theorem opens_asks : OpensAs enc Try.prog W 71 (fun z : AkR => [Value.slice z.1 z.2.2.length z.2.1]) (AsksOk W) :=
  opens_slice (k := 3) Try.underlying71 (by kernel_rfl) (by decide) (fun _ => rfl) opens_ask
abbrev WkR := Option Addr × Nat × List AkR
theorem opens_work : OpensAs enc Try.prog W 27 (fun z : WkR => [Value.slice z.1 z.2.2.length z.2.1]) (fun z => z.2.2.length ≤ z.2.1 ∧ z.2.1 ≤ maxLen ∧ (z.1 = none → z.2.1 = 0) ∧ Row W z.1 (z.2.2.flatMap fun z : AkR => [Value.slice z.1 z.2.2.length z.2.1]) ∧ (∀ x ∈ z.2.2, AsksOk W x) ∧ z.2.1 * Try.prog.bytesOf 71 ≤ 140737488351232) :=
  opens_slice (k := 1) Try.underlying27 (by kernel_rfl) (by decide) (fun _ => rfl) opens_asks
end
/-- What came in, as the contracts want it. -/
theorem asks_of {W : World} {p : Option Addr} {c : Nat} {zs : List AkR} (h : zs.length ≤ c ∧ c ≤ maxLen ∧ (p = none → c = 0) ∧ Row W p (zs.flatMap fun z : AkR => [Value.slice z.1 z.2.2.length z.2.1]) ∧ (∀ x ∈ zs, AsksOk W x) ∧ c * Try.prog.bytesOf 71 ≤ 140737488351232) :
    AskIs W p c zs ∧ ∀ z ∈ zs, z.2.2.length ≤ 4398046511104 ∧ ∀ a ∈ z.2.2, a.key.size ≤ 140737488351232 := by
  obtain ⟨h1, h2, h3, h4, h5, h6⟩ := h
  have e : (zs.flatMap fun z : AkR => [Value.slice z.1 z.2.2.length z.2.1]) = zs.map akS := by
    clear h1 h4 h5
    induction zs with
    | nil => rfl
    | cons z r ih => rw [List.flatMap_cons, ih]; rfl
  rw [e] at h4
  refine ⟨⟨h4, ⟨h1, h2⟩, fun z hz => ?_⟩, fun z hz => ?_⟩
  · obtain ⟨q1, q2, q3, q4, _⟩ := h5 z hz
    exact ⟨q3, q4, q1, q2⟩
  · obtain ⟨q1, q2, q3, q4, q5, q6⟩ := h5 z hz
    have hb : Try.prog.bytesOf 70 = 32 := by kernel_rfl
    rw [hb] at q6
    exact ⟨by omega, fun a ha => (q5 a ha).key⟩
end Go.Proofs.Ytabkmdhkfbcldaa
namespace Go.Proofs.Ytabkmdhkfbcldaa
open Go.RowKit
variable {w w' : World}

set_option maxRecDepth 40000 in
set_option maxHeartbeats 4000000 in
/-- Behind the run: a name's value is that of the define that is OK; who is not done awaits a name that has no value. -/
theorem first_walk (w : World) (n : Int) (hn : (Lit.int .i64 n).wf = true) (wp : Option Addr) (wc : Nat) (zs : List AkR)
    (hwk : zs.length ≤ wc ∧ wc ≤ maxLen ∧ (wp = none → wc = 0) ∧ Row w wp (zs.flatMap fun z : AkR => [Value.slice z.1 z.2.2.length z.2.1]) ∧ (∀ x ∈ zs, AsksOk w x) ∧ wc * Try.prog.bytesOf 71 ≤ 140737488351232)
    (kp : Option Addr) (kc : Nat) (ps : List Int)
    (hps : ps.length ≤ kc ∧ kc ≤ maxLen ∧ (kp = none → kc = 0) ∧ Row w kp (ps.map (Value.int .u8)) ∧ (∀ n ∈ ps, (Lit.int .u8 n).wf = true) ∧ kc * 1 ≤ 140737488351232) :
    Calls Try.prog 5 #[.int .i64 n, .slice wp zs.length wc, .slice kp ps.length kc] w fun e w' => e = .returned (.bool true) ∧ Below w.heap.size w w' := by
  obtain ⟨hA, hq⟩ := asks_of hwk
  obtain ⟨hp1, hp2, -, hp4, hp5, -⟩ := hps
  have HA := hid hA
  have HBG := hid begun_any
  have HFW := hid (fun (w1 : World) (hb : Below w.heap.size w w1) => few_any wp wc zs (hA.below hb) hq kp kc ps.length hp1 hp2)
  have HNW := hid (fun (w1 : World) (hb : Below w.heap.size w w1) => newT_any wp wc zs w1 (hA.below hb) n (wkOf zs n) (fun h => wkOf_new h))
  obtain ⟨pn, hpn⟩ : ∃ pn : List Nat, pn = ps.map Int.toNat := ⟨_, rfl⟩
  have HPL : Hid (pn.length = ps.length) := by unfold Hid; rw [hpn, List.length_map]
  have HPU : Hid (∀ x ∈ pn, x ≤ 255) := fun x hx => by
    rw [hpn] at hx
    obtain ⟨y, hy, rfl⟩ := List.mem_map.1 hx
    have := wf_u8 (hp5 y hy)
    omega
  have HPR : Hid (Row w kp (pn.map (fun n : Nat => .int .u8 n))) := by
    have e : pn.map (fun n : Nat => Value.int .u8 n) = ps.map (Value.int .u8) := by
      rw [hpn, List.map_map]
      refine List.map_congr_left fun y hy => ?_
      have := wf_u8 (hp5 y hy)
      show Value.int .u8 (y.toNat : Nat) = .int .u8 y
      congr 1; omega
    unfold Hid; rw [e]; exact hp4
  rw [← HPL.out] at hp1
  have HFW2 : Hid (∀ (w1 : World), Below w.heap.size w w1 → Calls Try.prog 12 #[.slice wp zs.length wc, .slice kp pn.length kc] w1 (FewTell zs pn.length w1)) := fun w1 hb => by rw [HPL.out]; exact HFW.out w1 hb
  rw [← HPL.out]
  clear HFW hpn hp4 hp5 hA hq hwk HPL
  by_cases h0 : newTE n (lists zs) = 0
  · have H0 := hid h0
    rw [h0] at HNW
    clear h0
    have hmm := @run_makeMap Try.prog
    go_enter Try.func5, Try.ntmps5
    go_upto_region 3 with (first
      | (go_at_call 7; (with_reducible refine (HBG.out _).mono ?_); rintro e w1 ⟨rfl, hb1⟩; have HB1 := hid hb1; clear hb1)
      | (go_at_call 12; (with_reducible refine (HFW2.out _ HB1.out).mono ?_); rintro e w2 ⟨bf, rfl, hfo, hb2⟩; have HFO := hid hfo; have HB2 := hid (HB1.out.trans (hb2.mono HB1.out.size)); clear hfo hb2))
    · go_ret
      exact ⟨rfl, HB2.out.trans (HB1.out.mono HB2.out.size)⟩
    rename (!bf) = false => hbf
    have HFE : Hid (FewOk zs pn.length) := HFO.out (by simpa using hbf)
    have HKK := hid (wkOf_ok HFE.out H0.out)
    have HKD := hid (wkOf_kinds HFE.out H0.out)
    have HKR := hid (wkOf_run HFE.out H0.out)
    have HKO := hid (wkOf_own HFE.out H0.out)
    have HPM : Hid (pn.length ≤ 1000000) := Nat.le_trans HFE.out.p (by omega)
    clear hbf HFO HFE
    generalize wkOf zs n = K at *
    go_upto_region 10 with (first
      | (go_at_call 13; (with_reducible refine (HNW.out _ HB2.out).mono ?_); rintro e w3 hnt; obtain ⟨t, B, rfl, hT, -, hb3⟩ := hnt.ok; have HB3 := hid (HB2.out.trans (hb3.mono HB2.out.size)); have HRN := hid (run32_any (runJ32 HKK.out HB2.out.size (by omega) HKO.out) HKK.out (by omega) ⟨⟨B, hT⟩, HB3.out⟩ HKR.out kp kc pn HPM.out HPU.out HPR.out); obtain ⟨bs, hbs⟩ : ∃ bs, bs = w2.heap.size := ⟨_, rfl⟩; rw [← hbs] at HRN; clear hnt hT hb3 hbs)
      | (go_at_call 19; (with_reducible refine HRN.out.mono ?_); rintro e w4 ⟨rfl, S, hri, hend⟩; have HRI := hid hri; have HEND := hid hend; clear hri hend HRN))
    clear hmm
    obtain ⟨⟨B, hT⟩, hb4⟩ := HRI.out.j
    have hok := HRI.out.ok
    have hfo := HRI.out.r.f_ok (TabIs.shLt HKK.out) (start_f K)
    have HE : Hid (EndOk K S) := hfo.end_ok (TabIs.shLt HKK.out) HKD.out hok.ok HEND.out
    have HCL : Hid (S.calls.length ≤ 360) := by have h1 := hok.m; have h2 := hok.ok.cnt; unfold Hid; omega
    have HVM : Hid (B.vm.length = S.rows.length) := vm_len hT.is.vals.nodup hok.ok.keys hT.is.valIs
    obtain ⟨W5, hW5⟩ : ∃ W5, W5 = (w4.alloc (.map #[] 0)).alloc (.map #[] 0) := ⟨_, rfl⟩
    have hz5 : W5.heap.size = w4.heap.size + 2 := by rw [hW5]; simp
    have hb5 : Below w4.heap.size w4 W5 := by rw [hW5]; exact ((Below.refl _ _).alloc (Nat.le_refl _) _).alloc (by simp) _
    have HP5 : Hid (MapIs Value.string (Value.int .i64) W5 w4.heap.size ([] : List (ByteArray × Int))) := by
      unfold Hid; rw [hW5]; exact (MapIs.made _ _ w4).alloc _
    have HO5 : Hid (MapIs (Value.int .i64) clV W5 (w4.heap.size + 1) ([] : List (Int × Cl))) := by
      unfold Hid; rw [hW5]; exact mapAt _ _ _ _ (by simp)
    have HB4 := hid hb4
    have HB45 := hid hb5
    have HHI := hid (history_any (hT.is.below hb5) (by have := HCL.out; omega))
    have HGT := hid (fun (wr : World) (hb : Below w4.heap.size w4 wr) (key : ByteArray) => get_any (hT.is.below hb) key)
    have HDN := hid (fun (wr : World) (hb : Below w4.heap.size w4 wr) (v : Int) => done_any (hT.is.below hb) v)
    have HWT := hid (fun (wr : World) (hb : Below w4.heap.size w4 wr) (v : Int) => twaits_any (hT.is.below hb) HKK.out v)
    have HWK := hid (fun (wr : World) (hb : Below w4.heap.size w4 wr) => workers_any (hT.is.below hb))
    have HAL := hid (fun (wr : World) (hb : Below w4.heap.size w4 wr) => all_any (hT.is.below hb) (by have h1 := HVM.out; have h2 := HE.out.len; have h3 := List.length_filter_le okd S.calls; have := HCL.out; omega))
    have hw4 := hb4.size
    unfold CloneC at HHI
    clear hT hok hfo hb4 hb5
    rw [← hW5]
    clear hW5
    go_wp2_with (go_at_call 27; (with_reducible refine HHI.out.mono ?_); rintro e w6 ⟨v6, rfl, ho6, hb6⟩; obtain ⟨p6, c6, rfl, hr6⟩ := own_shape ho6; have HO6 := hid ho6; have HB6 := hid hb6; have hz6 := hb6.size; clear ho6 hr6 hb6)
    have HF0 : Hid (FI w4 w4.heap.size (w4.heap.size + 1) W5.heap.size (.slice p6 S.calls.length c6) S.calls 0 w6) :=
      ⟨by simp; exact HP5.out.below HB6.out (by omega), ⟨[], HO5.out.below HB6.out (by omega), fun v => rfl⟩, HO6.out, HB45.out.trans (HB6.out.mono (by omega))⟩
    have hz0 : ∀ w1 : World, (zeroValue 2).run Try.prog w1 = .ok (.int .i64 0) w1 := fun w1 => by kernel_rfl
    have HZ0 := hid hz0
    clear hz0
    go_loopw [50] (fun i wr => ∃ k : Nat, k ≤ S.calls.length ∧ i = .int .i64 k ∧ FI w4 w4.heap.size (w4.heap.size + 1) W5.heap.size (.slice p6 S.calls.length c6) S.calls k wr) (fun i _ => S.calls.length - (intOf i).toNat)
    case atStart => exact ⟨0, by omega, rfl, HF0.out⟩
    case round =>
      rename World => wr
      obtain ⟨k, hk, rfl, hfi⟩ := hrel
      have HFI := hid hfi
      have hcl := HCL.out
      unfold Hid at hcl
      clear HF0 hfi
      by_cases hlt : k < S.calls.length
      · have hkI : (k : Int) < S.calls.length := by omega
        have hrow := HFI.out.rowAt
        obtain ⟨b, o, rfl, hbl, -⟩ := hrow.at (by have := flat_len Cl.cells 8 (fun _ => rfl) S.calls; omega)
        obtain ⟨x0, x1, x2, x3, x4, x5, x6, x7⟩ := cl_all hrow k hlt
        have HPU2 := hid (HE.out.put k hlt)
        have HOP := hid (fun (wx w2 : World) (h : FI w4 w4.heap.size (w4.heap.size + 1) W5.heap.size (.slice (some ⟨b, o, none⟩) S.calls.length c6) S.calls k wx) (hto : S.calls[k].to < 0) (mo : List (Int × Cl)) (hmo : ∀ v : Int, alook mo v = openBy (S.calls.take k) v) hm (hg : wx.grownBy w2 (some (w4.heap.size + 1))) => h.opens hlt (by omega) (by omega) hto hmo hm hg)
        have HSK := hid (fun (wx : World) (h : FI w4 w4.heap.size (w4.heap.size + 1) W5.heap.size (.slice (some ⟨b, o, none⟩) S.calls.length c6) S.calls k wx) hto hn => h.skip hlt hto hn)
        have HPT := hid (fun (wx w2 : World) (h : FI w4 w4.heap.size (w4.heap.size + 1) W5.heap.size (.slice (some ⟨b, o, none⟩) S.calls.length c6) S.calls k wx) hok hnew hm (hg : wx.grownBy w2 (some w4.heap.size)) => (h.puts hlt (by omega) (Nat.le_refl _) hok hnew hm hg).1)
        generalize S.calls[k] = c at *
        obtain ⟨cw, ck, cy, cv, cf, ct, ca, ce⟩ := c
        dsimp only at x0 x1 x2 x3 x4 x5 x6 x7
        have HF7 := hid (HFI.out.below (((Below.refl wr.heap.size wr).alloc (Nat.le_refl _) (.cells #[.int .i64 cw, .int .i64 ck, .string cy, .int .i64 cv, .int .i64 cf, .int .i64 ct, .int .i64 ca, .int .i64 ce] 46))))
        have HNB : Hid (w4.heap.size + 1 < wr.heap.size) := by have h1 := HFI.out.opn; obtain ⟨mo, h2, _⟩ := h1; exact h2.lt
        clear hrow
        have HC7 : Hid (∀ (w2 : World) (g : Nat), g < wr.heap.size → (wr.alloc (.cells #[.int .i64 cw, .int .i64 ck, .string cy, .int .i64 cv, .int .i64 cf, .int .i64 ct, .int .i64 ca, .int .i64 ce] 46)).grownBy w2 (some g) → w2.heap[wr.heap.size]? = some (.cells #[.int .i64 cw, .int .i64 ck, .string cy, .int .i64 cv, .int .i64 cf, .int .i64 ct, .int .i64 ca, .int .i64 ce] 46 (0, 0))) := fun w2 g hg0 hg => (hg.block _ (by simp) (fun e => by injection e with e; omega)).trans (heap_alloc_new wr _)
        by_cases hto : ct < 0
        · obtain ⟨mo, hmo, hml⟩ := HF7.out.opn
          have HMO := hid hmo
          have HML := hid hml
          clear hmo hml
          go_wp2_with ((with_reducible show wpList _ _ _ (⟨none, .mapUpdate _ _ _ _, _, _, _, _⟩ :: _) _ _); go_loud (refine wpList_mapset KIn Try.underlying58 rfl _ _ _ (.inl rfl) _ _ rfl HMO.out cw rfl (⟨cw, ck, cy, cv, cf, ct, ca, ce⟩ : Cl) rfl ?_); intro w8 hm8 hg8; have HM8 := hid hm8; have HG8 := hid hg8; have hc8 := HC7.out _ _ HNB.out hg8; have y1 := cell_of_row _ _ 1 _ _ _ hc8; have y5 := cell_of_row _ _ 5 _ _ _ hc8; have y7 := cell_of_row _ _ 7 _ _ _ hc8; simp only [List.getElem?_toArray, List.getElem?_cons_zero, List.getElem?_cons_succ] at y1 y5 y7; clear hm8 hg8 hc8)
          all_goals exact ⟨⟨k + 1, by omega, by go_num, HOP.out _ _ HF7.out hto mo HML.out HM8.out HG8.out⟩, by simp [intOf]; omega⟩
        · by_cases hok : ck = 1 ∧ ce = 0
          · obtain ⟨rfl, rfl⟩ := hok
            have hod : okd ⟨cw, 1, cy, cv, cf, ct, ca, 0⟩ = true := by unfold okd; simp; omega
            obtain ⟨hnew, hget⟩ := HPU2.out hod
            have HNK := hid (new_key hnew)
            have HNW2 := hid hnew
            have HOD := hid hod
            have HGE := hid hget
            have hbW : Below w4.heap.size w4 (wr.alloc (.cells #[.int .i64 cw, .int .i64 1, .string cy, .int .i64 cv, .int .i64 cf, .int .i64 ct, .int .i64 ca, .int .i64 0] 46)) := HF7.out.b
            have HPM7 := hid HF7.out.put
            have HBW7 := hid hbW
            clear hnew hget hod hbW
            go_wp2_with (first
              | ((with_reducible show wpList _ _ _ (⟨some 78, _, _, _, _, _⟩ :: _) _ _); go_loud (refine wpList_maplook KSt Try.underlying57 rfl _ _ true rfl (.int .i64 0) (HZ0.out _) _ _ rfl HPM7.out cy rfl ?_); simp only [HNK.out, if_true, Option.map_none, Option.getD_none, Option.isSome_none])
              | ((with_reducible show wpList _ _ _ (⟨none, .mapUpdate _ _ _ _, _, _, _, _⟩ :: _) _ _); go_loud (refine wpList_mapset KSt Try.underlying57 rfl _ _ _ (.inl rfl) _ _ rfl HPM7.out cy rfl cv rfl ?_); intro w8 hm8 hg8; have HM8 := hid hm8; have HG8 := hid hg8; have HF8 := hid (HPT.out _ _ HF7.out HOD.out HNW2.out hm8 hg8); have hc8 := HC7.out _ _ (by have := HNB.out; omega) hg8; have y2 := cell_of_row _ _ 2 _ _ _ hc8; have y3 := cell_of_row _ _ 3 _ _ _ hc8; have HGG := hid (HGT.out _ HF8.out.b cy); rw [HGE.out] at HGG; simp only [List.getElem?_toArray, List.getElem?_cons_zero, List.getElem?_cons_succ] at y2 y3; clear hm8 hg8 hc8)
              | (go_at_call 22; (with_reducible refine HGG.out.mono ?_); rintro e w9 ⟨rfl, hw9⟩; subst hw9))
            all_goals exact ⟨⟨k + 1, by omega, by go_num, HF8.out⟩, by simp [intOf]; omega⟩
          · have hn : okd ⟨cw, ck, cy, cv, cf, ct, ca, ce⟩ = false := by
              unfold okd
              rw [Bool.eq_false_iff]; intro e; simp at e; exact hok ⟨e.1.1, e.2⟩
            have HFN := hid (HSK.out _ HF7.out hto hn)
            clear hn
            by_cases hk1 : ck = 1
            · have he0 : ¬ ce = 0 := fun e => hok ⟨hk1, e⟩
              subst hk1
              clear hok
              go_wp2_with fail
              all_goals exact ⟨⟨k + 1, by omega, by go_num, HFN.out⟩, by simp [intOf]; omega⟩
            · clear hok
              go_wp2_with fail
              all_goals exact ⟨⟨k + 1, by omega, by go_num, HFN.out⟩, by simp [intOf]; omega⟩
      · have hke : k = S.calls.length := by omega
        subst hke
        have HLL : Hid ((((S.calls.take S.calls.length).filter okd).map kvOf).length = (S.calls.filter okd).length) := by unfold Hid; rw [List.take_length, List.length_map]
        have HMN : Hid (∀ xs : List ByteArray, xs.Perm (B.vm.map Prod.fst) → (sortN xs).length ≤ 1000000 ∧ min 9999 (sortN xs).length = (S.calls.filter okd).length) := fun xs hp => by
          have h1 := (sortN_perm xs).length_eq
          have h2 := hp.length_eq
          rw [List.length_map, HVM.out, ← HE.out.len] at h2
          have h3 := List.length_filter_le okd S.calls
          omega
        have hfl := List.length_filter_le okd S.calls
        have HAW := hid (HAL.out _ HFI.out.b)
        generalize (S.calls.filter okd).length = L at *
        have hne : (((L : Nat) : Int) != (L : Int)) = false := by simp
        go_wp2_with (first
          | (go_at_call 31; (with_reducible refine HAW.out.mono ?_); rintro e w9 ⟨xs, pa, ca, bm, rfl, hpm, hall, hb9⟩; have HB9 := hid hb9; obtain ⟨hsl, hsm⟩ := HMN.out xs hpm; have HSM := hid hsm; have HTO := hid (told_any hall hsl 9999 (by omega)); clear hpm hall hb9 hsl hsm)
          | (go_at_call 30; (refine HTO.out.mono ?_); rintro e wa ⟨vt, rfl, hot, hbt⟩; rw [HSM.out] at hot; obtain ⟨pt, ct, rfl, -⟩ := own_shape hot; have HFA := hid ((HFI.out.below HB9.out).below hbt); have hma := HFA.out.put; clear hot hbt)
          | ((with_reducible show wpList _ _ _ (⟨some 108, _, _, _, _, _⟩ :: _) _ _); go_loud (refine wpList_maplen Try.underlying57 rfl _ rfl _ _ rfl hma ?_); rw [HLL.out])
          | (go_at_call 15; (with_reducible refine (HWK.out _ HFA.out.b).mono ?_); rintro e wb ⟨rfl, hwb⟩; subst hwb))
        have HFB := hid HFA.out
        have hwn := HKK.out.wn
        have HWO := hid (fun v (h : v < K.work.length) (hd : S.doneN K v = false) => HE.out.opn v h hd)
        have HTK := hid (List.take_length (l := S.calls))
        clear HMN HLL HAW hne hma HSM HTO
        have HZC := hid (fun w1 : World => (show (zeroValue 46).run Try.prog w1 = .ok (.agg #[.int .i64 0, .int .i64 0, .string .empty, .int .i64 0, .int .i64 0, .int .i64 0, .int .i64 0, .int .i64 0]) w1 by kernel_rfl))
        obtain ⟨m, hm⟩ : ∃ m, m = K.work.length := ⟨_, rfl⟩
        have HM := hid hm
        rw [← hm] at hwn
        rw [← hm]
        clear hm
        go_loopw [112] (fun i wr => ∃ v : Nat, v ≤ m ∧ i = .int .i64 v ∧ FI w4 w4.heap.size (w4.heap.size + 1) W5.heap.size (.slice p6 S.calls.length c6) S.calls S.calls.length wr) (fun i _ => m - (intOf i).toNat)
        case atStart => exact ⟨0, by omega, rfl, HFB.out⟩
        case round =>
          rename World => wz
          obtain ⟨v, hv, rfl, hfz⟩ := hrel
          have HFZ := hid hfz
          clear HFB HFA hfz
          by_cases hlt : v < m
          · have hvI : (v : Int) < m := by omega
            have hvw : v < K.work.length := by rw [← HM.out]; exact hlt
            have HD3 := hid (HDN.out _ HFZ.out.b (v : Int))
            rw [doneI_nat S v hvw] at HD3
            cases hd : S.doneN K v with
            | true =>
              rw [hd] at HD3
              clear hd
              go_wp2_with (go_at_call 17; (with_reducible refine HD3.out.mono ?_); rintro e w3 ⟨rfl, qd, rfl⟩)
              exact ⟨⟨v + 1, by omega, by go_num, HFZ.out.below (below_drewN (Below.refl _ _) _)⟩, by simp [intOf]; omega⟩
            | false =>
              rw [hd] at HD3
              obtain ⟨⟨cw, ck, cy, cv, cf, ct, ca, ce⟩, ho, hk3, hg, hw⟩ := HWO.out v hvw hd
              dsimp only at hk3 hg
              subst hk3
              have hww := waitsI_nat S v hvw hd
              rw [hw] at hww
              have HWW := hid hww
              have HG := hid hg
              have HO := hid ho
              clear hd hww hw hg ho
              go_wp2_with (first
                | (go_at_call 17; (with_reducible refine HD3.out.mono ?_); rintro e w3 ⟨rfl, hqd⟩; have HFD := hid (HFZ.out.below (w' := w3) (by obtain ⟨qd, rfl⟩ := hqd; exact below_drewN (Below.refl _ _) qd)); clear hqd; obtain ⟨mo, hmo, hml⟩ := HFD.out.opn; have hlk := hml (v : Int); rw [HTK.out, HO.out] at hlk; have HLK := hid hlk; have HMO := hid hmo; have HBL := hid (HFD.out.b.alloc HFD.out.b.size (.cells #[.int .i64 cw, .int .i64 3, .string cy, .int .i64 cv, .int .i64 cf, .int .i64 ct, .int .i64 ca, .int .i64 ce] 46)); have HGG := hid (HGT.out _ HBL.out cy); rw [HG.out] at HGG; have HW3 := hid (HWT.out _ HBL.out (v : Int)); rw [HWW.out] at HW3; have HF4 := hid (HFD.out.below ((Below.refl _ _).alloc (Nat.le_refl _) (.cells #[.int .i64 cw, .int .i64 3, .string cy, .int .i64 cv, .int .i64 cf, .int .i64 ct, .int .i64 ca, .int .i64 ce] 46))); clear hlk hmo hml)
                | ((with_reducible show wpList _ _ _ (⟨some 121, _, _, _, _, _⟩ :: _) _ _); go_loud (refine wpList_maplook KIn Try.underlying58 rfl _ _ true rfl (.agg #[.int .i64 0, .int .i64 0, .string .empty, .int .i64 0, .int .i64 0, .int .i64 0, .int .i64 0, .int .i64 0]) (HZC.out _) _ _ rfl HMO.out (v : Int) rfl ?_); simp only [HLK.out, if_true, Option.map_some, Option.getD_some, Option.isSome_some, clV, Cl.cells])
                | (go_at_call 22; (with_reducible refine HGG.out.mono ?_); rintro e w9 ⟨rfl, hw9⟩; subst hw9)
                | (go_at_call 18; (with_reducible refine HW3.out.mono ?_); rintro e wc1 ⟨rfl, hbc⟩; have HBC := hid hbc; clear hbc))
              exact ⟨⟨v + 1, by omega, by go_num, HF4.out.below HBC.out⟩, by simp [intOf]; omega⟩
          · have hve : v = m := by omega
            subst hve
            go_wp2_with fail
            go_ret
            exact ⟨rfl, HB4.out.trans (HFZ.out.b.mono HB4.out.size)⟩
  · have H0 := hid h0
    generalize newTE n (lists zs) = te at *
    go_enter Try.func5, Try.ntmps5
    go_wp2_with (first
      | (go_at_call 7; (with_reducible refine (HBG.out _).mono ?_); first | (rintro e w1 ⟨rfl, hb1⟩; have HB1 := hid hb1; clear hb1))
      | (go_at_call 12; (with_reducible refine (HFW2.out _ HB1.out).mono ?_); rintro e w2 ⟨bf, rfl, hfo, hb2⟩; have HFO := hid hfo; have HB2 := hid (HB1.out.trans (hb2.mono HB1.out.size)); clear hfo hb2)
      | (go_at_call 13; (with_reducible refine (HNW.out _ HB2.out).mono ?_); rintro e w3 (⟨-, rfl, hb3⟩ | ⟨hz, -⟩); rotate_left; exact (H0.out hz).elim; have HB3 := hid (HB2.out.trans (hb3.mono HB2.out.size)); clear hb3))
    · go_ret
      exact ⟨rfl, HB2.out.trans (HB1.out.mono HB2.out.size)⟩
    · go_ret
      exact ⟨rfl, HB3.out⟩
end Go.Proofs.Ytabkmdhkfbcldaa
