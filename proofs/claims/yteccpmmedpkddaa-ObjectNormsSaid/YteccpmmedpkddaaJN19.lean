/-
  Objects to read, by what they hold; an object of one's own that is changed.
  Symbols: which may be: the document's walk.
  slices.IsSortedFunc over symbols by their order.
  Where a name is: the document's walks.
-/
import Derived.Test.YteccpmmedpkddaaJN18
import Derived.Test.YteccpmmedpkddaaJN9
import Derived.Test.YteccpmmedpkddaaJN5
import Derived.Test.YteccpmmedpkddaaJN4
import Derived.Test.YteccpmmedpkddaaJN2
import Derived.Deep.RegionHeld3
import Derived.Test.YteccpmmedpkddaaJN1
import Derived.Test.YteccpmmedpkddaaShelf
namespace Go.Proofs.Yteccpmmedpkddaa
open Go.RowKit
variable {W w w' : World} {B k : Nat} {secs : List Sc} {sv yv : Value} {Y : List Sy} {g : Nat}
/-- A value that reads as an object that holds C. -/
def Rd (w : World) (v : Value) (C : List ScC × List Sy) : Prop := ∃ o : Ob, v = .agg o.cells.toArray ∧ o.rd w ∧ o.con = C
theorem Rd.below {v : Value} {C : List ScC × List Sy} (h : Rd w v C) (hb : Below w.heap.size w w') : Rd w' v C := by
  obtain ⟨o, h1, h2, h3⟩ := h
  exact ⟨o, h1, h2.below hb, h3⟩
theorem Rd.two {v : Value} {C : List ScC × List Sy} (h : Rd w v C) : ∃ a b, v = .agg #[a, b] := by
  obtain ⟨o, h1, -, -⟩ := h
  exact ⟨_, _, h1⟩
/-- What gives an object that holds C. -/
structure RdT (W : World) (C : List ScC × List Sy) (e : Ending) (w' : World) : Prop where
  ex : ∃ p n c q m d, e = .returned (.agg #[.slice p n c, .slice q m d]) ∧ Rd w' (.agg #[.slice p n c, .slice q m d]) C
  b : Below W.heap.size W w'
theorem same_rd {u v : Value} {C D : List ScC × List Sy} (h1 : Rd w u C) (h2 : Rd w v D) : Calls Try.prog 31 #[u, v] w fun e w' => e = .returned (.bool (decide (C = D))) ∧ Below w.heap.size w w' := by
  obtain ⟨o, rfl, h3, rfl⟩ := h1
  obtain ⟨p, rfl, h4, rfl⟩ := h2
  exact same_any o p w h3 h4
theorem rsame_rd {u v : Value} {C D : List ScC × List Sy} (h1 : Rd w u C) (h2 : Rd w v D) : Calls Try.prog 29 #[u, v] w fun e w' => e = .returned (.bool (decide (C = D))) ∧ Below w.heap.size w w' := by
  obtain ⟨o, rfl, h3, rfl⟩ := h1
  obtain ⟨p, rfl, h4, rfl⟩ := h2
  exact rsame_any o p w h3 h4
/-- What holds a content that can be read can be read. -/
theorem FrV.rd_con {o : Ob} (h : FrV B w sv yv secs Y secs.length) (ho : o.rd W) {f : ScC → ScC} (hf : ∀ c, (f c).data = c.data ∧ (f c).rel.length = c.rel.length) (hc : secs.map Sc.con = (o.secs.map Sc.con).map f) (hy : Y.length = o.syms.length) :
    Rd w (.agg #[sv, yv]) ((o.secs.map Sc.con).map f, Y) := by
  have hl : secs.length = o.secs.length := by simpa using congrArg List.length hc
  obtain ⟨p, h1, h2, h3, h4⟩ := h.rd (by rw [hl]; exact ho.scap) (by rw [hy]; exact ho.ycap) (fun s hs => by
    obtain ⟨t, ht, e⟩ : ∃ t ∈ o.secs, f t.con = s.con := by
      have : s.con ∈ secs.map Sc.con := List.mem_map.2 ⟨s, hs, rfl⟩
      rw [hc] at this
      obtain ⟨c, h1, h2⟩ := List.mem_map.1 this
      obtain ⟨t, h3, rfl⟩ := List.mem_map.1 h1
      exact ⟨t, h3, h2⟩
    have ht2 := ho.each t ht
    have e1 : s.data = t.data := by have := congrArg ScC.data e; rw [(hf t.con).1] at this; exact this.symm
    have e2 : s.rel.length = t.rel.length := by have := congrArg (fun c => (ScC.rel c).length) e; simp only [(hf t.con).2] at this; exact this.symm
    exact ⟨by rw [e1]; exact ht2.bytes, by rw [e1]; exact ht2.dlen, by rw [e2]; exact ht2.rcap⟩)
  refine ⟨p, h1, h2, ?_⟩
  unfold Ob.con
  rw [h3, h4, hc]
theorem CloR.rdT {o : Ob} {e : Ending} (h : CloR W o e w') (ho : o.rd W) : RdT W o.con e w' := by
  obtain ⟨⟨sv, yv, secs, rfl, h1, h2⟩, hb⟩ := h
  have hl : secs.length = o.secs.length := by simpa using congrArg List.length h2
  obtain ⟨p1, c1, rfl, -⟩ := own_shape h1.os
  obtain ⟨p2, c2, rfl, -⟩ := own_shape h1.oy
  refine ⟨⟨_, _, _, _, _, _, rfl, ?_⟩, hb⟩
  have := FrV.rd_con (f := id) h1 ho (fun c => ⟨rfl, rfl⟩) (by simpa using h2) rfl
  simpa [Ob.con] using this
theorem NormT.rdT {o : Ob} {e : Ending} (h : NormT W o.con e w') (ho : o.rd W) : RdT W (normC o.con) e w' := by
  obtain ⟨⟨sv, yv, secs, rfl, h1, h2⟩, hb⟩ := h
  have := own_shape h1.os
  obtain ⟨p1, c1, rfl, -⟩ := own_shape h1.os
  obtain ⟨p2, c2, rfl, -⟩ := own_shape h1.oy
  refine ⟨⟨_, _, _, _, _, _, rfl, ?_⟩, hb⟩
  exact h1.rd_con ho (f := nsec o.con.2) (fun c => ⟨rfl, by simp [nsec]⟩) h2 (nsyms_len _)
/-! ### Changes -/
/-- An object of one's own, in its box. -/
structure MuA (B : Nat) (W : World) (g : Nat) (sv yv : Value) (secs : List Sc) (Y : List Sy) (w : World) : Prop where
  fr : FrV B w sv yv secs Y secs.length
  box : w.heap[g]? = some (.cells #[sv, yv] 25 (0, 0))
  gB : B ≤ g
  b : Below B W w
  WB : W.heap.size = B
theorem MuA.sz (h : MuA B W g sv yv secs Y w) : B ≤ w.heap.size := by have := h.b.size; rw [h.WB] at this; exact this
theorem MuA.below (h : MuA B W g sv yv secs Y w) (hb : Below w.heap.size w w') : MuA B W g sv yv secs Y w' :=
  ⟨h.fr.below h.sz hb, (hb.block _ (Array.getElem?_eq_some_iff.1 h.box).1).trans h.box, h.gB, h.b.trans (hb.mono h.sz), h.WB⟩
/-- A world that has changed one block, of type T, of which some others are not. -/
structure Tou (w w' : World) (q T : Nat) : Prop where
  g : w.grownBy w' (some q)
  t : tagAt w q = some (T + 1)
theorem Tou.keep {q T g T' : Nat} {cs : Array Value} {x : Nat × Nat} (h : Tou w w' q T) (hT : T ≠ T') (hg : w.heap[g]? = some (.cells cs T' x)) : w'.heap[g]? = some (.cells cs T' x) :=
  (h.g.block g (Array.getElem?_eq_some_iff.1 hg).1 (fun e => by
    have e2 : q = g := by first | exact (Option.some.inj e).symm | exact Option.some.inj e
    subst e2
    have := tag_row hg
    rw [h.t] at this; injection this with this; injection this with this; exact hT this)).trans hg
theorem MuA.setN {gy m cy : Nat} (h : MuA B W g sv (.slice (some ⟨gy, 0, none⟩) m cy) secs Y w) (hm : m = Y.length) {i : Nat} {y : Sy} (hy : Y[i]? = some y) (x : ByteArray) :
    MuA B W g sv (.slice (some ⟨gy, 0, none⟩) m cy) secs (Y.set i { y with name := x }) (w.setCell ⟨gy, i * 4, none⟩ (.string x)) ∧ Tou w (w.setCell ⟨gy, i * 4, none⟩ (.string x)) gy 36 := by
  subst hm
  have h1 := World.ownsRow.stored h.fr.oy (i * 4) (.string x)
  have ht := own_tag h.fr.oy rfl
  have hto : Tou w (w.setCell ⟨gy, i * 4, none⟩ (.string x)) gy 36 := ⟨h1.2, ht⟩
  have hl : Lies B (fun x => x ≠ 36 + 1) w _ := Lies.grown h1.2 (fun a e => by cases e; exact ⟨ht, own_ge h.fr.oy gy rfl⟩) (fun hn => hn rfl) h.sz
  refine ⟨⟨⟨hl.own h.fr.os (by decide), ?_, fun j t hj hh => ⟨hl.own (h.fr.each j t hj hh).data (by decide), hl.own (h.fr.each j t hj hh).rel (by decide)⟩, h.fr.ap⟩, hto.keep (by decide) h.box, h.gB, h.b.grown h1.2 h.sz (fun q e => by cases e; exact own_ge h.fr.oy gy rfl), h.WB⟩, hto⟩
  have e1 := set_flat Sy.cells 4 (fun _ => rfl) Y i 0 y (.string x) hy (by decide) { y with name := x } rfl
  have := h1.1
  rw [show i * 4 = i * 4 + 0 from rfl, e1] at this
  rw [List.length_set]; exact this
theorem MuA.setO (h : MuA B W g sv yv secs Y w) {i : Nat} {s : Sc} (hs : secs[i]? = some s) {gr : Nat} (hrp : s.rp = some ⟨gr, 0, none⟩) {q : Nat} {r : Rl} (hq : s.rel[q]? = some r) (v : Int) :
    MuA B W g sv yv (secs.set i { s with rel := s.rel.set q { r with off := v } }) Y (w.setCell ⟨gr, q * 4, none⟩ (.int .i64 v)) ∧ Tou w (w.setCell ⟨gr, q * 4, none⟩ (.int .i64 v)) gr 54 := by
  have hi : i < secs.length := (List.getElem?_eq_some_iff.1 hs).1
  have hf := h.fr.each i s hi hs
  have hrel := hf.rel
  have hrv : rV s = .slice (some ⟨gr, 0, none⟩) s.rel.length s.rc := by unfold rV; rw [hrp]
  rw [hrv] at hrel
  have ht := own_tag hrel rfl
  have hg : w.grownBy (w.setCell ⟨gr, q * 4, none⟩ (.int .i64 v)) (some gr) := grown_set w ⟨gr, q * 4, none⟩ _
  have hto : Tou w (w.setCell ⟨gr, q * 4, none⟩ (.int .i64 v)) gr 54 := ⟨hg, ht⟩
  have hl : Lies B (fun x => x ≠ 54 + 1) w (w.setCell ⟨gr, q * 4, none⟩ (.int .i64 v)) := Lies.grown hg (fun a e => by cases e; exact ⟨ht, own_ge hrel gr rfl⟩) (fun hn => hn rfl) h.sz
  have hnew := (World.ownsRow.stored hrel (q * 4) (.int .i64 v)).1
  have e0 := set_flat Rl.cells 4 (fun _ => rfl) s.rel q 0 r (.int .i64 v) hq (by decide) { r with off := v } rfl
  rw [Nat.add_zero] at e0
  rw [e0] at hnew
  have hlen : (s.rel.set q { r with off := v }).length = s.rel.length := List.length_set
  have hd' : dV { s with rel := s.rel.set q { r with off := v } } = dV s := rfl
  have hr' : rV { s with rel := s.rel.set q { r with off := v } } = rV s := by unfold rV; simp
  have hget : ∀ (j : Nat) (t : Sc), (secs.set i { s with rel := s.rel.set q { r with off := v } })[j]? = some t → (j = i ∧ t = { s with rel := s.rel.set q { r with off := v } }) ∨ (j ≠ i ∧ secs[j]? = some t) := fun j t ht => by
    by_cases e : j = i
    · subst e; rw [List.getElem?_set_self hi] at ht; exact .inl ⟨rfl, (Option.some.inj ht).symm⟩
    · rw [List.getElem?_set_ne (fun e2 => e e2.symm)] at ht; exact .inr ⟨e, ht⟩
  refine ⟨⟨⟨?_, hl.own h.fr.oy (by decide), fun j t hj ht => ?_, fun a b t u hab ha hb ht hu => ?_⟩, hto.keep (by decide) h.box, h.gB, h.b.grown hg h.sz (fun q e => by cases e; exact own_ge hrel gr rfl), h.WB⟩, hto⟩
  · rw [List.length_set, flat_same Sc.cells secs i s _ hs (by simp [Sc.cells])]
    exact hl.own h.fr.os (by decide)
  · rw [List.length_set] at hj
    rcases hget j t ht with ⟨rfl, rfl⟩ | ⟨hne, ht2⟩
    · refine ⟨hl.own hf.data (by decide), ?_⟩
      show World.ownsRow _ B _ 4 (rV { s with rel := s.rel.set q { r with off := v } }) (s.rel.set q { r with off := v }).length _
      rw [hr', hlen, hrv]; exact hnew
    · have ht3 := h.fr.each j t hj ht2
      refine ⟨hl.own ht3.data (by decide), own_setO ht3.rel _ _ (fun a e => ?_)⟩
      have := (h.fr.ap j i t s hne hj hi ht2 hs).2 a e
      rw [hrv] at this
      intro e2; apply this; rw [e2]; rfl
  · rw [List.length_set] at ha hb
    rcases hget a t ht with ⟨rfl, rfl⟩ | ⟨hne, ht2⟩ <;> rcases hget b u hu with ⟨rfl, rfl⟩ | ⟨hne2, hu2⟩
    · exact absurd rfl hab
    · rw [hd', hr']; exact h.fr.ap _ _ _ _ hab ha hb hs hu2
    · rw [hd', hr']; exact h.fr.ap _ _ _ _ hab ha hb ht2 hs
    · exact h.fr.ap _ _ _ _ hab ha hb ht2 hu2
theorem MuA.setD (h : MuA B W g sv yv secs Y w) {i : Nat} {s : Sc} (hs : secs[i]? = some s) {gr : Nat} (hrp : s.dp = some ⟨gr, 0, none⟩) (q : Nat) (v : Int) :
    MuA B W g sv yv (secs.set i { s with data := s.data.set q v }) Y (w.setCell ⟨gr, q, none⟩ (.int .u8 v)) ∧ Tou w (w.setCell ⟨gr, q, none⟩ (.int .u8 v)) gr 5 := by
  have hi : i < secs.length := (List.getElem?_eq_some_iff.1 hs).1
  have hf := h.fr.each i s hi hs
  have hrel := hf.data
  have hrv : dV s = .slice (some ⟨gr, 0, none⟩) s.data.length s.dc := by unfold dV; rw [hrp]
  rw [hrv] at hrel
  have ht := own_tag hrel rfl
  have hg : w.grownBy (w.setCell ⟨gr, q, none⟩ (.int .u8 v)) (some gr) := grown_set w ⟨gr, q, none⟩ _
  have hto : Tou w (w.setCell ⟨gr, q, none⟩ (.int .u8 v)) gr 5 := ⟨hg, ht⟩
  have hl : Lies B (fun x => x ≠ 5 + 1) w (w.setCell ⟨gr, q, none⟩ (.int .u8 v)) := Lies.grown hg (fun a e => by cases e; exact ⟨ht, own_ge hrel gr rfl⟩) (fun hn => hn rfl) h.sz
  have hnew := (World.ownsRow.stored hrel q (.int .u8 v)).1
  rw [← List.map_set] at hnew
  have hlen : (s.data.set q v).length = s.data.length := List.length_set
  have hd' : dV { s with data := s.data.set q v } = dV s := by unfold dV; simp
  have hr' : rV { s with data := s.data.set q v } = rV s := rfl
  have hget : ∀ (j : Nat) (t : Sc), (secs.set i { s with data := s.data.set q v })[j]? = some t → (j = i ∧ t = { s with data := s.data.set q v }) ∨ (j ≠ i ∧ secs[j]? = some t) := fun j t ht => by
    by_cases e : j = i
    · subst e; rw [List.getElem?_set_self hi] at ht; exact .inl ⟨rfl, (Option.some.inj ht).symm⟩
    · rw [List.getElem?_set_ne (fun e2 => e e2.symm)] at ht; exact .inr ⟨e, ht⟩
  refine ⟨⟨⟨?_, hl.own h.fr.oy (by decide), fun j t hj ht => ?_, fun a b t u hab ha hb ht hu => ?_⟩, hto.keep (by decide) h.box, h.gB, h.b.grown hg h.sz (fun q e => by cases e; exact own_ge hrel gr rfl), h.WB⟩, hto⟩
  · rw [List.length_set, flat_same Sc.cells secs i s _ hs (by simp [Sc.cells])]
    exact hl.own h.fr.os (by decide)
  · rw [List.length_set] at hj
    rcases hget j t ht with ⟨rfl, rfl⟩ | ⟨hne, ht2⟩
    · refine ⟨?_, hl.own hf.rel (by decide)⟩
      show World.ownsRow _ B _ 1 (dV { s with data := s.data.set q v }) (s.data.set q v).length _
      rw [hd', hlen, hrv]; exact hnew
    · have ht3 := h.fr.each j t hj ht2
      refine ⟨own_setO ht3.data _ _ (fun a e => ?_), hl.own ht3.rel (by decide)⟩
      have := (h.fr.ap j i t s hne hj hi ht2 hs).1 a e
      rw [hrv] at this
      intro e2; apply this; rw [e2]; rfl
  · rw [List.length_set] at ha hb
    rcases hget a t ht with ⟨rfl, rfl⟩ | ⟨hne, ht2⟩ <;> rcases hget b u hu with ⟨rfl, rfl⟩ | ⟨hne2, hu2⟩
    · exact absurd rfl hab
    · rw [hd', hr']; exact h.fr.ap _ _ _ _ hab ha hb hs hu2
    · rw [hd', hr']; exact h.fr.ap _ _ _ _ hab ha hb ht2 hs
    · exact h.fr.ap _ _ _ _ hab ha hb ht2 hu2
end Go.Proofs.Yteccpmmedpkddaa
namespace Go.Proofs.Yteccpmmedpkddaa
open Go.RowKit

def noZ (s : ByteArray) (k : Nat) : Bool := !(s.data.toList.take k).contains 0
theorem noZ_succ (s : ByteArray) (k : Nat) (h : k < s.size) (hc : ¬ (s[k].toNat : Int) = 0) (hk : noZ s k = true) : noZ s (k + 1) = true := by
  unfold noZ at hk ⊢
  rw [List.take_succ_eq_append_getElem (by simpa using h)]
  simp at hk ⊢
  refine ⟨hk, fun e => hc ?_⟩
  have : s[k] = 0 := e.symm
  rw [this]; rfl
theorem noZ_false (s : ByteArray) (k : Nat) (h : k < s.size) (hc : (s[k].toNat : Int) = 0) : hasZero s = true := by
  unfold hasZero
  rw [List.contains_iff_mem]
  have h2 : s[k] ∈ s.data.toList := by
    have : s[k] = s.data.toList[k]'(by simpa using h) := rfl
    rw [this]; exact List.getElem_mem _
  have h3 : s[k] = 0 := by
    apply UInt8.toNat_inj.1
    have : (s[k].toNat : Int) = 0 := hc
    simp at this ⊢
    exact this
  rwa [h3] at h2
theorem noZ_all (s : ByteArray) (h : noZ s s.size = true) : hasZero s = false := by
  unfold noZ at h
  unfold hasZero
  rw [List.take_of_length_le (show s.data.toList.length ≤ s.size from Nat.le_refl _)] at h
  simpa using h

set_option maxRecDepth 20000 in
set_option maxHeartbeats 8000000 in
theorem rsymbol_any (x : Sy) (p : Option Addr) (c : Nat) (l : List Sc) (w : World) (hx : x.ok) (hrow : Row w p (l.flatMap Sc.cells)) (hl : l.length ≤ 4398046510976) :
    Calls Try.prog 41 #[.agg x.cells.toArray, .slice p l.length c] w fun e w' => e = .returned (.bool (symP x l)) ∧ Below w.heap.size w w' := by
  have HP : Hid (symP x l = (decide (1 ≤ x.name.size) && decide (x.name.size ≤ 255) && !hasZero x.name && symTail x l)) := rfl
  unfold symTail at HP
  obtain ⟨hxn, hx1, hx2⟩ := hx
  obtain ⟨name, sec, val, glob⟩ := x
  dsimp only at HP hxn hx1 hx2 ⊢
  show Calls Try.prog 41 #[.agg #[.string name, .int .i64 sec, .int .i64 val, .bool glob], .slice p l.length c] w _
  have hbx : Below w.heap.size w (w.alloc (.cells #[.string name, .int .i64 sec, .int .i64 val, .bool glob] 36)) := (Below.refl _ _).alloc (Nat.le_refl _) _
  by_cases h1 : 1 ≤ name.size
  case neg =>
    have h1' : name.size < 1 := by omega
    have H1 := hid (decide_eq_false h1)
    go_enter Try.func41, Try.ntmps41
    go_wp2
    go_ret
    exact ⟨ret_bool (by rw [HP.out, H1.out]; simp), hbx⟩
  by_cases h2 : name.size ≤ 255
  case neg =>
    have h2' : 255 < name.size := by omega
    have H2 := hid (decide_eq_false h2)
    go_enter Try.func41, Try.ntmps41
    go_wp2
    go_ret
    exact ⟨ret_bool (by rw [HP.out, H2.out]; simp), hbx⟩
  have H1 := hid (decide_eq_true h1)
  have H2 := hid (decide_eq_true h2)
  go_enter Try.func41, Try.ntmps41
  go_wp2
  go_loop [5] (fun i => ∃ k : Nat, k ≤ name.size ∧ i = .int .i64 k ∧ noZ name k = true) (fun i => name.size - (intOf i).toNat)
  case atStart => exact ⟨0, Nat.zero_le _, rfl, by simp [noZ]⟩
  case round =>
    obtain ⟨k, hk, rfl, hok⟩ := hrel
    have HOK := hid hok
    clear hok
    by_cases hlt : k < name.size
    · have HS := hid (noZ_succ name k hlt)
      have HF := hid (noZ_false name k hlt)
      by_cases hc : ((name[k].toNat : Int)) = 0
      · have hc' : ((name[k].toNat : Int) == 0) = true := by simpa using hc
        have HC := hid hc
        clear hc
        go_wp2
        go_ret
        exact ⟨ret_bool (by rw [HP.out, HF.out HC.out]; simp), hbx⟩
      · have hc' : ((name[k].toNat : Int) == 0) = false := by simpa using hc
        go_wp2
        go_round
        case rel => exact ⟨k + 1, by omega, by go_num, HS.out hc HOK.out⟩
        case measure => simp [intOf]; omega
    · obtain rfl : k = name.size := by omega
      have HZ := hid (noZ_all name HOK.out)
      by_cases h4 : sec = -2
      case pos =>
        subst h4
        go_wp2
        go_ret
        exact ⟨ret_bool (by rw [HP.out, H1.out, H2.out, HZ.out]; simp), hbx⟩
      have h4' : (sec == -2) = false := by simpa using h4
      by_cases h3 : sec = -1
      case pos =>
        subst h3
        cases glob
        all_goals
          go_wp2
          all_goals (go_ret; refine ⟨ret_bool ?_, hbx⟩; rw [HP.out, H1.out, H2.out, HZ.out])
          all_goals first | (simp; done) | (rw [Bool.eq_iff_iff]; simp)
      have h3' : (sec == -1) = false := by simpa using h3
      have H3 : Hid (symP ⟨name, sec, val, glob⟩ l = (decide (0 ≤ sec) && decide (sec < l.length) && decide (0 ≤ val) && decide (val ≤ secSize l sec))) := by rw [Hid, HP.out, H1.out, H2.out, HZ.out, if_neg h3, if_neg h4]; simp
      by_cases h5 : 0 ≤ sec
      case neg =>
        have h5' : sec < 0 := by omega
        have hd5 := decide_eq_false h5
        have H5 := hid hd5
        clear h5
        go_wp2
        go_quiet (fail)
        go_wp2
        go_ret
        exact ⟨ret_bool (by rw [H3.out, H5.out]; simp), below_drewN hbx _⟩
      have H5 := hid (decide_eq_true h5)
      by_cases h6 : sec < l.length
      case neg =>
        have h6' : (l.length : Int) ≤ sec := by omega
        have hd6 := decide_eq_false h6
        have H6 := hid hd6
        clear h6
        go_wp2
        go_quiet (fail)
        go_wp2
        go_ret
        exact ⟨ret_bool (by rw [H3.out, H6.out]; simp), below_drewN hbx _⟩
      have H6 := hid (decide_eq_true h6)
      by_cases h7 : 0 ≤ val
      case neg =>
        have h7' : val < 0 := by omega
        have hd7 := decide_eq_false h7
        have H7 := hid hd7
        clear h7
        go_wp2
        go_quiet (fail)
        go_wp2
        go_ret
        exact ⟨ret_bool (by rw [H3.out, H7.out]; simp), below_drewN hbx _⟩
      have H7 := hid (decide_eq_true h7)
      obtain ⟨j, rfl⟩ : ∃ k : Nat, sec = k := ⟨sec.toNat, by omega⟩
      have hk : j < l.length := by omega
      have hkn : ((j : Int)).toNat = j := by omega
      obtain ⟨b, o, rfl, hb, hcc⟩ := sec_cell hrow j hk
      generalize secSize l j = S at hcc H3
      clear hrow
      have H8 : Hid (symP ⟨name, j, val, glob⟩ l = decide (val ≤ S)) := by rw [Hid, H3.out, H5.out, H6.out, H7.out]; simp
      clear H3
      go_wp2
      go_quiet (fail)
      go_wp2
      go_ret
      exact ⟨ret_bool H8.out.symm, below_drewN hbx _⟩
end Go.Proofs.Yteccpmmedpkddaa
namespace Go.Proofs.Yteccpmmedpkddaa
open Go.RowKit

/-- Symbol i does not stand behind its place. -/
def sortAt (l : List Sy) (i : Nat) : Bool := match l[i]?, l[i - 1]? with | some a, some b => !decide (orderP a b < 0) | _, _ => true
def sortP (l : List Sy) : Bool := (List.range l.length).all (fun i => i == 0 || sortAt l i)
theorem sortP_true {l : List Sy} (h : ∀ j, 0 < j → j < l.length → sortAt l j = true) : sortP l = true := by
  simp only [sortP, List.all_eq_true, List.mem_range, Bool.or_eq_true, beq_iff_eq]
  intro i hi
  rcases Nat.eq_zero_or_pos i with h0 | h0
  · exact .inl h0
  · exact .inr (h i h0 hi)
theorem sortP_false {l : List Sy} (j : Nat) (h0 : 0 < j) (hj : j < l.length) (h : sortAt l j = false) : sortP l = false := by
  rw [Bool.eq_false_iff]
  intro e
  simp only [sortP, List.all_eq_true, List.mem_range, Bool.or_eq_true, beq_iff_eq] at e
  rcases e j hj with h1 | h1
  · omega
  · rw [h] at h1; cases h1
theorem sortAt_eq {l : List Sy} (j : Nat) (hj : j < l.length) (h1 : j - 1 < l.length) : sortAt l j = !decide (orderP l[j] l[j - 1] < 0) := by
  unfold sortAt; rw [List.getElem?_eq_getElem hj, List.getElem?_eq_getElem h1]

set_option maxRecDepth 20000 in
set_option maxHeartbeats 2000000 in
theorem sorted_any (p : Option Addr) (c : Nat) (l : List Sy) (w : World) (hrow : Row w p (l.flatMap Sy.cells)) (hl : l.length ≤ 4398046510976) :
    Calls Try.prog 38 #[.slice p l.length c, .func (.func 39) #[] #[]] w fun e w' => e = .returned (.bool (sortP l)) ∧ Below w.heap.size w w' := by
  go_enter Try.func38, Try.ntmps38
  go_wp2
  go_loopw [5] (fun i wr => ∃ z : Int, -1 ≤ z ∧ z < l.length ∧ i = .int .i64 z ∧ (∀ j : Nat, 0 < j → z < j → j < l.length → sortAt l j = true) ∧ Below w.heap.size w wr) (fun i _ => (intOf i + 1).toNat)
  case atStart => exact ⟨(l.length : Int) - 1, by omega, by omega, rfl, fun j _ h1 h2 => by omega, Below.refl _ _⟩
  case round =>
    obtain ⟨z, hz1, hz2, rfl, hok, hb⟩ := hrel
    have HOK := hid hok
    clear hok
    by_cases hlt : 0 < z
    · obtain ⟨b, off, rfl, hbs, hzz⟩ := hrow.at (by have := flat_len Sy.cells 4 (fun _ => rfl) l; omega)
      clear hzz
      obtain ⟨k, hk⟩ : ∃ k : Nat, k = z.toNat := ⟨_, rfl⟩
      obtain ⟨m, hm⟩ : ∃ m : Nat, m = z.toNat - 1 := ⟨_, rfl⟩
      have hzk : z = k := by omega
      subst hzk
      have hkl : k < l.length := by omega
      have hml : m < l.length := by omega
      have hmk : m = k - 1 := by omega
      have hmx : IntKind.i64.wrap ((k : Int) - 1) = (m : Int) := by rw [IntWalk.i64_in _ (by omega)]; omega
      have hmn : ((m : Nat) : Int).toNat = m := by omega
      have hkn : ((k : Nat) : Int).toNat = k := by omega
      have HS : Hid (sortAt l k = !decide (orderP l[k] l[m] < 0)) := by subst hmk; exact sortAt_eq k hkl hml
      have HSF := hid (sortP_false k (by omega) hkl)
      have a0 : ∀ w', Below wr.heap.size wr w' → _ := fun w' hw => (sy_cells (hrow.below (below_more hw hb (Nat.le_refl _))) k hkl).1
      have a1 : ∀ w', Below wr.heap.size wr w' → _ := fun w' hw => (sy_cells (hrow.below (below_more hw hb (Nat.le_refl _))) k hkl).2.1
      have a2 : ∀ w', Below wr.heap.size wr w' → _ := fun w' hw => (sy_cells (hrow.below (below_more hw hb (Nat.le_refl _))) k hkl).2.2.1
      have a3 : ∀ w', Below wr.heap.size wr w' → _ := fun w' hw => (sy_cells (hrow.below (below_more hw hb (Nat.le_refl _))) k hkl).2.2.2
      have b0 : ∀ w', Below wr.heap.size wr w' → _ := fun w' hw => (sy_cells (hrow.below (below_more hw hb (Nat.le_refl _))) m hml).1
      have b1 : ∀ w', Below wr.heap.size wr w' → _ := fun w' hw => (sy_cells (hrow.below (below_more hw hb (Nat.le_refl _))) m hml).2.1
      have b2 : ∀ w', Below wr.heap.size wr w' → _ := fun w' hw => (sy_cells (hrow.below (below_more hw hb (Nat.le_refl _))) m hml).2.2.1
      have b3 : ∀ w', Below wr.heap.size wr w' → _ := fun w' hw => (sy_cells (hrow.below (below_more hw hb (Nat.le_refl _))) m hml).2.2.2
      have HO := hid (fun w1 => order_any l[k] l[m] w1)
      generalize l[k] = x at a0 a1 a2 a3 HO HS
      generalize l[m] = y at b0 b1 b2 b3 HO HS
      obtain ⟨xn, xs, xv, xg⟩ := x
      obtain ⟨yn, ys, yv, yg⟩ := y
      unfold Sy.cells at HO
      dsimp only at a0 a1 a2 a3 b0 b1 b2 b3 HO
      generalize orderP _ _ = r at HO HS
      have HMK := hid hmk
      clear hk hm hmk
      go_upto_region 4 with (fail)
      go_cut [24] (fun v wx => v = .bool (decide (r < 0)) ∧ Below wr.heap.size wr wx)
      case first =>
        go_region_held3 (fun w' => Below wr.heap.size wr w') (first | exact (Below.refl _ _).drew | assumption) (first | (go_at_call 39; with_reducible refine (HO.out _).mono ?_; rintro e w' ⟨rfl, hbq⟩; have hq2 : Below wr.heap.size wr w' := below_more hbq (by assumption) (Nat.le_refl _); clear hbq))
        all_goals (go_wp2_with fail; go_meet)
        all_goals exact ⟨rfl, by assumption⟩
      case rest =>
        obtain ⟨rfl, hbc⟩ := hcut
        have hbw := below_more hbc hb (Nat.le_refl _)
        clear a0 a1 a2 a3 b0 b1 b2 b3
        by_cases hr : r < 0
        · have HR := hid hr
          go_wp2
          go_ret
          exact ⟨ret_bool (HSF.out (by rw [HS.out, decide_eq_true HR.out]; rfl)).symm, hbw⟩
        · have hr' : 0 ≤ r := by omega
          have HS2 : Hid (sortAt l k = true) := by rw [Hid, HS.out, decide_eq_false hr]; rfl
          clear hr hmx
          go_wp2
          go_roundw
          case rel => exact ⟨(k : Int) - 1, by omega, by omega, rfl, fun j h0 h1 h2 => by
            by_cases e : j = k
            · subst e; exact HS2.out
            · exact HOK.out j h0 (by omega) h2, hbw⟩
          case measure => simp [intOf] <;> omega
    · have HT : Hid (sortP l = true) := sortP_true (fun j h0 hj => HOK.out j h0 (by omega) hj)
      have hz0 : z ≤ 0 := by omega
      go_wp2
      go_ret
      exact ⟨ret_bool HT.out.symm, hb⟩
end Go.Proofs.Yteccpmmedpkddaa
namespace Go.Proofs.Yteccpmmedpkddaa
open Go.RowKit

def named (s x : ByteArray) : Bool := x.toList == s.toList
/-- Where a name comes first. -/
def idxP (l : List ByteArray) (s : ByteArray) : Option Nat := l.findIdx? (named s)
def idxV (r : Option Nat) : Value := .tuple #[.int .i64 ((r.getD 0 : Nat) : Int), .bool r.isSome]
theorem idxP_some {l : List ByteArray} {s : ByteArray} {k : Nat} (h : k < l.length) (hn : named s l[k] = true) (ha : ∀ j (hj : j < l.length), j < k → named s l[j] = false) : idxP l s = some k := by
  unfold idxP
  rw [List.findIdx?_eq_some_iff_getElem]
  exact ⟨h, hn, fun j hj => by simp [ha j (by omega) hj]⟩
theorem idxP_none {l : List ByteArray} {s : ByteArray} (ha : ∀ j (hj : j < l.length), named s l[j] = false) : idxP l s = none := by
  unfold idxP
  rw [List.findIdx?_eq_none_iff]
  intro x hx
  obtain ⟨j, hj, rfl⟩ := List.getElem_of_mem hx
  simp [ha j hj]

theorem rfind_any (o : Ob) (s : ByteArray) (w : World) (ho : o.ok w) :
    Calls Try.prog 18 #[.agg o.cells.toArray, .string s] w fun e w' => e = .returned (idxV (idxP (o.syms.map Sy.name) s)) ∧ Below w.heap.size w w' := by
  have hrow := ho.syms
  have hcap := ho.ycap
  obtain ⟨secs, sp, sc, syms, yp, yc⟩ := o
  dsimp only at hrow hcap ⊢
  clear ho
  obtain ⟨hc1, hc2, _⟩ := hcap
  show Calls Try.prog 18 #[.agg #[.slice sp secs.length sc, .slice yp syms.length yc], .string s] w _
  have hbx : Below w.heap.size w (w.alloc (.cells #[.slice sp secs.length sc, .slice yp syms.length yc] 25)) := (Below.refl _ _).alloc (Nat.le_refl _) _
  go_enter Try.func18, Try.ntmps18
  go_wp2
  go_loop [6] (fun i => ∃ k : Nat, k ≤ syms.length ∧ i = .int .i64 k ∧ ∀ j (hj : j < syms.length), j < k → named s (syms[j]).name = false) (fun i => syms.length - (intOf i).toNat)
  case atStart => exact ⟨0, Nat.zero_le _, rfl, fun j _ hj => by omega⟩
  case round =>
    obtain ⟨k, hk, rfl, hok⟩ := hrel
    have HOK := hid hok
    clear hok
    by_cases hlt : k < syms.length
    · obtain ⟨b, off, rfl, hbs, hzz⟩ := hrow.at (by have := flat_len Sy.cells 4 (fun _ => rfl) syms; omega)
      clear hzz
      obtain ⟨c0, c1, c2, c3⟩ := sy_cells hrow k hlt
      obtain ⟨nm, hnm⟩ : ∃ nm, nm = syms[k].name := ⟨_, rfl⟩
      rw [← hnm] at c0
      have HNM := hid hnm
      clear hnm c1 c2 c3
      cases hc : (nm.toList == s.toList) with
      | true =>
        have HF : Hid (idxP (syms.map Sy.name) s = some k) := idxP_some (by simpa using hlt) (by rw [List.getElem_map, ← HNM.out]; exact hc) (fun j hj hjk => by rw [List.getElem_map]; exact HOK.out j (by simpa using hj) hjk)
        go_wp2
        go_ret2
        exact ⟨by rw [HF.out]; rfl, hbx⟩
      | false =>
        have HC := hid hc
        go_wp2
        go_round
        case rel => exact ⟨k + 1, by omega, by go_num, fun j hj hjk => by
          by_cases e : j = k
          · subst e; unfold named; rw [← HNM.out]; exact HC.out
          · exact HOK.out j hj (by omega)⟩
        case measure => simp [intOf]; omega
    · have HF : Hid (idxP (syms.map Sy.name) s = none) := idxP_none (fun j hj => by rw [List.getElem_map]; exact HOK.out j (by simpa using hj) (by simp at hj; omega))
      go_wp2
      go_ret2
      exact ⟨by rw [HF.out]; rfl, hbx⟩

theorem rsect_any (o : Ob) (s : ByteArray) (w : World) (ho : o.ok w) :
    Calls Try.prog 19 #[.agg o.cells.toArray, .string s] w fun e w' => e = .returned (idxV (idxP (o.secs.map Sc.name) s)) ∧ Below w.heap.size w w' := by
  have hrow := ho.secs
  have hcap := ho.scap
  obtain ⟨secs, sp, sc, syms, yp, yc⟩ := o
  dsimp only at hrow hcap ⊢
  clear ho
  obtain ⟨hc1, hc2, _⟩ := hcap
  show Calls Try.prog 19 #[.agg #[.slice sp secs.length sc, .slice yp syms.length yc], .string s] w _
  have hbx : Below w.heap.size w (w.alloc (.cells #[.slice sp secs.length sc, .slice yp syms.length yc] 25)) := (Below.refl _ _).alloc (Nat.le_refl _) _
  go_enter Try.func19, Try.ntmps19
  go_wp2
  go_loop [6] (fun i => ∃ k : Nat, k ≤ secs.length ∧ i = .int .i64 k ∧ ∀ j (hj : j < secs.length), j < k → named s (secs[j]).name = false) (fun i => secs.length - (intOf i).toNat)
  case atStart => exact ⟨0, Nat.zero_le _, rfl, fun j _ hj => by omega⟩
  case round =>
    obtain ⟨k, hk, rfl, hok⟩ := hrel
    have HOK := hid hok
    clear hok
    by_cases hlt : k < secs.length
    · obtain ⟨b, off, rfl, hbs, hzz⟩ := hrow.at (by have := flat_len Sc.cells 6 (fun _ => rfl) secs; omega)
      clear hzz
      obtain ⟨c0, c1, c2, c3, c4, c5⟩ := sc_cells hrow k hlt
      obtain ⟨nm, hnm⟩ : ∃ nm, nm = secs[k].name := ⟨_, rfl⟩
      rw [← hnm] at c0
      have HNM := hid hnm
      clear hnm c1 c2 c3 c4 c5
      cases hc : (nm.toList == s.toList) with
      | true =>
        have HF : Hid (idxP (secs.map Sc.name) s = some k) := idxP_some (by simpa using hlt) (by rw [List.getElem_map, ← HNM.out]; exact hc) (fun j hj hjk => by rw [List.getElem_map]; exact HOK.out j (by simpa using hj) hjk)
        go_wp2
        go_ret2
        exact ⟨by rw [HF.out]; rfl, hbx⟩
      | false =>
        have HC := hid hc
        go_wp2
        go_round
        case rel => exact ⟨k + 1, by omega, by go_num, fun j hj hjk => by
          by_cases e : j = k
          · subst e; unfold named; rw [← HNM.out]; exact HC.out
          · exact HOK.out j hj (by omega)⟩
        case measure => simp [intOf]; omega
    · have HF : Hid (idxP (secs.map Sc.name) s = none) := idxP_none (fun j hj => by rw [List.getElem_map]; exact HOK.out j (by simpa using hj) (by simp at hj; omega))
      go_wp2
      go_ret2
      exact ⟨by rw [HF.out]; rfl, hbx⟩
end Go.Proofs.Yteccpmmedpkddaa
