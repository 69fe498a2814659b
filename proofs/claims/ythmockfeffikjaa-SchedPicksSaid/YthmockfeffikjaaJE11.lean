/-
  The walk of the document's One.
-/
import Derived.Test.YthmockfeffikjaaJE10
namespace Go.Proofs.Ythmockfeffikjaa
open Go.RowKit

set_option maxHeartbeats 2000000 in
theorem rone_bad (x : Ce) (p : Option Addr) (c : Nat) (wk : Int) (a : Ac) (w : World) (hsl : SlAt w p c x.came) (hm : x.came.length ≤ 17592186043904) (hok : okP x = false) :
    Calls Try.prog 51 #[x.val p c, i64 wk, a.val] w (CeTellN p c x.came (oneP x wk a).1 [i64 (oneP x wk a).2.1, i64 (oneP x wk a).2.2] w) := by
  obtain ⟨kind, n, owner, need, came, turns, there⟩ := x
  obtain ⟨ak, ac, ao, an⟩ := a
  dsimp only at hsl hm
  have HK := hid (fun w1 (h : SlAt w1 p c came) => rcheck_any ⟨kind, n, owner, need, came, turns, there⟩ p c w1 h hm)
  unfold Ce.val at HK
  dsimp only at HK
  obtain ⟨W3, hW3⟩ : ∃ W3, W3 = ((w.alloc (.cells #[i64 kind, i64 n, i64 owner, i64 need, .slice p came.length c, i64 turns, .bool there] 30)).alloc (.cells #[i64 ak, i64 ac, i64 ao, i64 an] 34)).alloc (.cells #[.int .i64 0, .int .i64 0, .int .i64 0, .int .i64 0, .slice none 0 0, .int .i64 0, .bool false] 30) := ⟨_, rfl⟩
  have HST3 := hid (one_start w ⟨kind, n, owner, need, came, turns, there⟩ p c ⟨ak, ac, ao, an⟩ W3 hW3)
  have hs3 : SlAt W3 p c came := by rw [hW3]; exact ((hsl.alloc _).alloc _).alloc _
  have hb3 : Below w.heap.size w W3 := by rw [hW3]; exact (((Below.refl _ _).alloc (Nat.le_refl _) _).alloc (by simp) _).alloc (by simp; omega) _
  have hz3 : w.heap.size + 3 = W3.heap.size := by rw [hW3]; simp
  have HW3 := hid hW3
  have HZZ := hid hz3
  have hz3 : w.heap.size + 3 ≤ W3.heap.size := by omega
  clear hW3 HZZ
  have hck : ckP ⟨kind, n, owner, need, came, turns, there⟩ = 230 := by unfold ckP; rw [hok]; rfl
  rw [hck] at HK
  have HP : Hid (oneP ⟨kind, n, owner, need, came, turns, there⟩ wk ⟨ak, ac, ao, an⟩ = (⟨kind, n, owner, need, came, turns, there⟩, 0, 230)) := by unfold Hid oneP; rw [hok]; rfl
  clear hok hck
  unfold Ce.val Ac.val
  dsimp only
  go_enter Try.func51, Try.ntmps51
  go_wp2_with (first
    | (go_at_call 58; rw [← HW3.out]; refine (HK.out _ hs3).mono ?_; rintro e w1 ⟨rfl, hb1⟩; have hs1 := hs3.below hb1; have hz1 := hb1.size; have HA1 := hid (HST3.out.1.below hb1); have HC1 := hid (HST3.out.2.1.below hb1); have HZ1 := hid (HST3.out.2.2.below hb1); have hbw1 := hb3.trans (hb1.mono (by omega)); obtain ⟨⟨a0, a1, a2, a3, a4, a5, a6⟩, af, al⟩ := HA1.out.facts; dsimp only at a0 a1 a2 a3 a4 a5 a6; obtain ⟨⟨c0, c1, c2, c3⟩, cl⟩ := HC1.out.facts; dsimp only at c0 c1 c2 c3; obtain ⟨⟨z0, z1, z2, z3, z4, z5, z6⟩, zf, zl⟩ := HZ1.out.facts; dsimp only [ce0, List.length_nil] at z0 z1 z2 z3 z4 z5 z6))
  exact bodyPost_ret (v := .tuple #[(Ce.mk kind n owner need came turns there).val p c, i64 0, i64 230]) (by simp [results, Try.results51, go_sem, Ce.val, a0, a1, a2, a3, a4, a5, a6, z0, z1, z2, z3, z4, z5, z6]) rfl (by
    rw [HP.out]
    refine ⟨p, c, rfl, ?_, .inl ⟨rfl, rfl, rfl⟩, ?_⟩
    · repeat (refine SlAt.setL ?_ hsl _ _ _ (by omega))
      exact hs1
    · repeat (refine Below.setCell ?_ (by first | omega | (simp; done) | (simp; omega)) _)
      exact hbw1)

set_option maxHeartbeats 2000000 in
theorem rone_noW (x : Ce) (p : Option Addr) (c : Nat) (wk : Int) (a : Ac) (w : World) (hsl : SlAt w p c x.came) (hm : x.came.length ≤ 17592186043904) (hok : okP x = true) (hw : isW wk = false) :
    Calls Try.prog 51 #[x.val p c, i64 wk, a.val] w (CeTellN p c x.came (oneP x wk a).1 [i64 (oneP x wk a).2.1, i64 (oneP x wk a).2.2] w) := by
  obtain ⟨kind, n, owner, need, came, turns, there⟩ := x
  obtain ⟨ak, ac, ao, an⟩ := a
  dsimp only at hsl hm
  have HK := hid (fun w1 (h : SlAt w1 p c came) => rcheck_any ⟨kind, n, owner, need, came, turns, there⟩ p c w1 h hm)
  unfold Ce.val at HK
  dsimp only at HK
  obtain ⟨W3, hW3⟩ : ∃ W3, W3 = ((w.alloc (.cells #[i64 kind, i64 n, i64 owner, i64 need, .slice p came.length c, i64 turns, .bool there] 30)).alloc (.cells #[i64 ak, i64 ac, i64 ao, i64 an] 34)).alloc (.cells #[.int .i64 0, .int .i64 0, .int .i64 0, .int .i64 0, .slice none 0 0, .int .i64 0, .bool false] 30) := ⟨_, rfl⟩
  have HST3 := hid (one_start w ⟨kind, n, owner, need, came, turns, there⟩ p c ⟨ak, ac, ao, an⟩ W3 hW3)
  have hs3 : SlAt W3 p c came := by rw [hW3]; exact ((hsl.alloc _).alloc _).alloc _
  have hb3 : Below w.heap.size w W3 := by rw [hW3]; exact (((Below.refl _ _).alloc (Nat.le_refl _) _).alloc (by simp) _).alloc (by simp; omega) _
  have hz3 : w.heap.size + 3 = W3.heap.size := by rw [hW3]; simp
  have HW3 := hid hW3
  have HZZ := hid hz3
  have hz3 : w.heap.size + 3 ≤ W3.heap.size := by omega
  clear hW3 HZZ
  have hck : ckP ⟨kind, n, owner, need, came, turns, there⟩ = 0 := by unfold ckP; rw [hok]; rfl
  rw [hck] at HK
  have HIW := hid (risW_any wk)
  rw [hw] at HIW
  have HP : Hid (oneP ⟨kind, n, owner, need, came, turns, there⟩ wk ⟨ak, ac, ao, an⟩ = (⟨kind, n, owner, need, came, turns, there⟩, 0, 1)) := by unfold Hid oneP; rw [hok, hw]; rfl
  clear hok hck hw
  unfold Ce.val Ac.val
  dsimp only
  go_enter Try.func51, Try.ntmps51
  go_wp2_with (first
    | (go_at_call 58; rw [← HW3.out]; refine (HK.out _ hs3).mono ?_; rintro e w1 ⟨rfl, hb1⟩; have hs1 := hs3.below hb1; have hz1 := hb1.size; have HA1 := hid (HST3.out.1.below hb1); have HC1 := hid (HST3.out.2.1.below hb1); have HZ1 := hid (HST3.out.2.2.below hb1); have hbw1 := hb3.trans (hb1.mono (by omega)); obtain ⟨⟨a0, a1, a2, a3, a4, a5, a6⟩, af, al⟩ := HA1.out.facts; dsimp only at a0 a1 a2 a3 a4 a5 a6; obtain ⟨⟨c0, c1, c2, c3⟩, cl⟩ := HC1.out.facts; dsimp only at c0 c1 c2 c3; obtain ⟨⟨z0, z1, z2, z3, z4, z5, z6⟩, zf, zl⟩ := HZ1.out.facts; dsimp only [ce0, List.length_nil] at z0 z1 z2 z3 z4 z5 z6)
    | (go_at_call 60; refine (HIW.out w1).mono ?_; rintro e w2 ⟨rfl, rfl⟩))
  exact bodyPost_ret (v := .tuple #[(Ce.mk kind n owner need came turns there).val p c, i64 0, i64 1]) (by simp [results, Try.results51, go_sem, Ce.val, a0, a1, a2, a3, a4, a5, a6, z0, z1, z2, z3, z4, z5, z6]) rfl (by
    rw [HP.out]
    refine ⟨p, c, rfl, ?_, .inl ⟨rfl, rfl, rfl⟩, ?_⟩
    · repeat (refine SlAt.setL ?_ hsl _ _ _ (by omega))
      exact hs1
    · repeat (refine Below.setCell ?_ (by first | omega | (simp; done) | (simp; omega)) _)
      exact hbw1)

set_option maxHeartbeats 2000000 in
theorem rone_1 (x : Ce) (p : Option Addr) (c : Nat) (wk : Int) (a : Ac) (w : World) (hsl : SlAt w p c x.came) (hm : x.came.length ≤ 17592186043904) (hk : x.kind = 1) (hok : okP x = true) (hw : isW wk = true) :
    Calls Try.prog 51 #[x.val p c, i64 wk, a.val] w (CeTellN p c x.came (oneP x wk a).1 [i64 (oneP x wk a).2.1, i64 (oneP x wk a).2.2] w) := by
  obtain ⟨kind, n, owner, need, came, turns, there⟩ := x
  obtain ⟨ak, ac, ao, an⟩ := a
  dsimp only at hsl hm hk
  subst hk
  have HK := hid (fun w1 (h : SlAt w1 p c came) => rcheck_any ⟨1, n, owner, need, came, turns, there⟩ p c w1 h hm)
  unfold Ce.val at HK
  dsimp only at HK
  obtain ⟨W3, hW3⟩ : ∃ W3, W3 = ((w.alloc (.cells #[i64 1, i64 n, i64 owner, i64 need, .slice p came.length c, i64 turns, .bool there] 30)).alloc (.cells #[i64 ak, i64 ac, i64 ao, i64 an] 34)).alloc (.cells #[.int .i64 0, .int .i64 0, .int .i64 0, .int .i64 0, .slice none 0 0, .int .i64 0, .bool false] 30) := ⟨_, rfl⟩
  have HST3 := hid (one_start w ⟨1, n, owner, need, came, turns, there⟩ p c ⟨ak, ac, ao, an⟩ W3 hW3)
  have hs3 : SlAt W3 p c came := by rw [hW3]; exact ((hsl.alloc _).alloc _).alloc _
  have hb3 : Below w.heap.size w W3 := by rw [hW3]; exact (((Below.refl _ _).alloc (Nat.le_refl _) _).alloc (by simp) _).alloc (by simp; omega) _
  have hz3 : w.heap.size + 3 = W3.heap.size := by rw [hW3]; simp
  have HW3 := hid hW3
  have HZZ := hid hz3
  have hz3 : w.heap.size + 3 ≤ W3.heap.size := by omega
  clear hW3 HZZ
  have hck : ckP ⟨1, n, owner, need, came, turns, there⟩ = 0 := by unfold ckP; rw [hok]; rfl
  rw [hck] at HK
  have HIW := hid (risW_any wk)
  rw [hw] at HIW
  have HS := hid (fun w1 (h : SlAt w1 p c came) => rnumber_any ⟨1, n, owner, need, came, turns, there⟩ rfl wk ⟨ak, ac, ao, an⟩ p c w1 h)
  have hPP : oneP ⟨1, n, owner, need, came, turns, there⟩ wk ⟨ak, ac, ao, an⟩ = stepP ⟨1, n, owner, need, came, turns, there⟩ wk ⟨ak, ac, ao, an⟩ := by unfold oneP; rw [hok, hw]; rfl
  rw [hPP]
  clear hPP hok hck hw
  generalize stepP ⟨1, n, owner, need, came, turns, there⟩ wk ⟨ak, ac, ao, an⟩ = r at HS ⊢
  obtain ⟨⟨kind', n', owner', need', came', turns', there'⟩, V, E⟩ := r
  unfold CeTellN Ce.val Ac.val at HS
  dsimp only [List.cons_append, List.nil_append] at HS
  unfold Ce.val Ac.val
  dsimp only
  go_enter Try.func51, Try.ntmps51
  go_wp2_with (first
    | (go_at_call 58; rw [← HW3.out]; refine (HK.out _ hs3).mono ?_; rintro e w1 ⟨rfl, hb1⟩; have hs1 := hs3.below hb1; have hz1 := hb1.size; have HA1 := hid (HST3.out.1.below hb1); have HC1 := hid (HST3.out.2.1.below hb1); have HZ1 := hid (HST3.out.2.2.below hb1); have hbw1 := hb3.trans (hb1.mono (by omega)); obtain ⟨⟨a0, a1, a2, a3, a4, a5, a6⟩, af, al⟩ := HA1.out.facts; dsimp only at a0 a1 a2 a3 a4 a5 a6; obtain ⟨⟨c0, c1, c2, c3⟩, cl⟩ := HC1.out.facts; dsimp only at c0 c1 c2 c3; obtain ⟨⟨z0, z1, z2, z3, z4, z5, z6⟩, zf, zl⟩ := HZ1.out.facts; dsimp only [ce0, List.length_nil] at z0 z1 z2 z3 z4 z5 z6)
    | (go_at_call 60; refine (HIW.out w1).mono ?_; rintro e w2 ⟨rfl, rfl⟩)
    | (go_at_call 61; refine (HS.out _ hs1).mono ?_; rintro e w3 ⟨p3, c3, rfl, hs3', hl3, hb3'⟩; have HZ3 := hid (HZ1.out.below hb3'); have hbw3 := hbw1.trans (hb3'.mono hbw1.size); have hz3' := hb3'.size; obtain ⟨⟨y0, y1, y2, y3, y4, y5, y6⟩, yf, yl⟩ := HZ3.out.facts; dsimp only [ce0, List.length_nil] at y0 y1 y2 y3 y4 y5 y6))
  exact bodyPost_ret (v := .tuple #[(Ce.mk kind' n' owner' need' came' turns' there').val p3 c3, i64 V, i64 E]) (by simp [results, Try.results51, go_sem, Ce.val, y0, y1, y2, y3, y4, y5, y6]) rfl (by
    refine ⟨p3, c3, rfl, ?_, hl3.imp_right (fun h q hq => ⟨Nat.le_trans (by omega) (h q hq).1, by have := (h q hq).2; simp; omega⟩), ?_⟩
    · rcases hl3 with ⟨h1, h2, h3⟩ | hl3
      · dsimp only at h3 hs3' ⊢
        subst h1 h2 h3
        repeat (refine SlAt.setL ?_ hsl _ _ _ (by omega))
        exact hs3'
      · repeat (refine SlAt.set ?_ _ _ _ (fun q hq e => by have := hl3 q hq; omega))
        exact hs3'
    · repeat (refine Below.setCell ?_ (by first | omega | (simp; done) | (simp; omega)) _)
      exact hbw3)

set_option maxHeartbeats 2000000 in
theorem rone_2 (x : Ce) (p : Option Addr) (c : Nat) (wk : Int) (a : Ac) (w : World) (hsl : SlAt w p c x.came) (hm : x.came.length ≤ 17592186043904) (hk : x.kind = 2) (hok : okP x = true) (hw : isW wk = true) :
    Calls Try.prog 51 #[x.val p c, i64 wk, a.val] w (CeTellN p c x.came (oneP x wk a).1 [i64 (oneP x wk a).2.1, i64 (oneP x wk a).2.2] w) := by
  obtain ⟨kind, n, owner, need, came, turns, there⟩ := x
  obtain ⟨ak, ac, ao, an⟩ := a
  dsimp only at hsl hm hk
  subst hk
  have HK := hid (fun w1 (h : SlAt w1 p c came) => rcheck_any ⟨2, n, owner, need, came, turns, there⟩ p c w1 h hm)
  unfold Ce.val at HK
  dsimp only at HK
  obtain ⟨W3, hW3⟩ : ∃ W3, W3 = ((w.alloc (.cells #[i64 2, i64 n, i64 owner, i64 need, .slice p came.length c, i64 turns, .bool there] 30)).alloc (.cells #[i64 ak, i64 ac, i64 ao, i64 an] 34)).alloc (.cells #[.int .i64 0, .int .i64 0, .int .i64 0, .int .i64 0, .slice none 0 0, .int .i64 0, .bool false] 30) := ⟨_, rfl⟩
  have HST3 := hid (one_start w ⟨2, n, owner, need, came, turns, there⟩ p c ⟨ak, ac, ao, an⟩ W3 hW3)
  have hs3 : SlAt W3 p c came := by rw [hW3]; exact ((hsl.alloc _).alloc _).alloc _
  have hb3 : Below w.heap.size w W3 := by rw [hW3]; exact (((Below.refl _ _).alloc (Nat.le_refl _) _).alloc (by simp) _).alloc (by simp; omega) _
  have hz3 : w.heap.size + 3 = W3.heap.size := by rw [hW3]; simp
  have HW3 := hid hW3
  have HZZ := hid hz3
  have hz3 : w.heap.size + 3 ≤ W3.heap.size := by omega
  clear hW3 HZZ
  have hck : ckP ⟨2, n, owner, need, came, turns, there⟩ = 0 := by unfold ckP; rw [hok]; rfl
  rw [hck] at HK
  have HIW := hid (risW_any wk)
  rw [hw] at HIW
  have HS := hid (fun w1 (h : SlAt w1 p c came) => rlock_any ⟨2, n, owner, need, came, turns, there⟩ rfl wk ⟨ak, ac, ao, an⟩ p c w1 h hok)
  have hPP : oneP ⟨2, n, owner, need, came, turns, there⟩ wk ⟨ak, ac, ao, an⟩ = stepP ⟨2, n, owner, need, came, turns, there⟩ wk ⟨ak, ac, ao, an⟩ := by unfold oneP; rw [hok, hw]; rfl
  rw [hPP]
  clear hPP hok hck hw
  generalize stepP ⟨2, n, owner, need, came, turns, there⟩ wk ⟨ak, ac, ao, an⟩ = r at HS ⊢
  obtain ⟨⟨kind', n', owner', need', came', turns', there'⟩, V, E⟩ := r
  unfold CeTellN Ce.val Ac.val at HS
  dsimp only [List.cons_append, List.nil_append] at HS
  unfold Ce.val Ac.val
  dsimp only
  go_enter Try.func51, Try.ntmps51
  go_wp2_with (first
    | (go_at_call 58; rw [← HW3.out]; refine (HK.out _ hs3).mono ?_; rintro e w1 ⟨rfl, hb1⟩; have hs1 := hs3.below hb1; have hz1 := hb1.size; have HA1 := hid (HST3.out.1.below hb1); have HC1 := hid (HST3.out.2.1.below hb1); have HZ1 := hid (HST3.out.2.2.below hb1); have hbw1 := hb3.trans (hb1.mono (by omega)); obtain ⟨⟨a0, a1, a2, a3, a4, a5, a6⟩, af, al⟩ := HA1.out.facts; dsimp only at a0 a1 a2 a3 a4 a5 a6; obtain ⟨⟨c0, c1, c2, c3⟩, cl⟩ := HC1.out.facts; dsimp only at c0 c1 c2 c3; obtain ⟨⟨z0, z1, z2, z3, z4, z5, z6⟩, zf, zl⟩ := HZ1.out.facts; dsimp only [ce0, List.length_nil] at z0 z1 z2 z3 z4 z5 z6)
    | (go_at_call 60; refine (HIW.out w1).mono ?_; rintro e w2 ⟨rfl, rfl⟩)
    | (go_at_call 62; refine (HS.out _ hs1).mono ?_; rintro e w3 ⟨p3, c3, rfl, hs3', hl3, hb3'⟩; have HZ3 := hid (HZ1.out.below hb3'); have hbw3 := hbw1.trans (hb3'.mono hbw1.size); have hz3' := hb3'.size; obtain ⟨⟨y0, y1, y2, y3, y4, y5, y6⟩, yf, yl⟩ := HZ3.out.facts; dsimp only [ce0, List.length_nil] at y0 y1 y2 y3 y4 y5 y6))
  exact bodyPost_ret (v := .tuple #[(Ce.mk kind' n' owner' need' came' turns' there').val p3 c3, i64 V, i64 E]) (by simp [results, Try.results51, go_sem, Ce.val, y0, y1, y2, y3, y4, y5, y6]) rfl (by
    refine ⟨p3, c3, rfl, ?_, hl3.imp_right (fun h q hq => ⟨Nat.le_trans (by omega) (h q hq).1, by have := (h q hq).2; simp; omega⟩), ?_⟩
    · rcases hl3 with ⟨h1, h2, h3⟩ | hl3
      · dsimp only at h3 hs3' ⊢
        subst h1 h2 h3
        repeat (refine SlAt.setL ?_ hsl _ _ _ (by omega))
        exact hs3'
      · repeat (refine SlAt.set ?_ _ _ _ (fun q hq e => by have := hl3 q hq; omega))
        exact hs3'
    · repeat (refine Below.setCell ?_ (by first | omega | (simp; done) | (simp; omega)) _)
      exact hbw3)

set_option maxHeartbeats 2000000 in
theorem rone_3 (x : Ce) (p : Option Addr) (c : Nat) (wk : Int) (a : Ac) (w : World) (hsl : SlAt w p c x.came) (hm : x.came.length ≤ 17592186043904) (hk : x.kind = 3) (hok : okP x = true) (hw : isW wk = true) :
    Calls Try.prog 51 #[x.val p c, i64 wk, a.val] w (CeTellN p c x.came (oneP x wk a).1 [i64 (oneP x wk a).2.1, i64 (oneP x wk a).2.2] w) := by
  obtain ⟨kind, n, owner, need, came, turns, there⟩ := x
  obtain ⟨ak, ac, ao, an⟩ := a
  dsimp only at hsl hm hk
  subst hk
  have HK := hid (fun w1 (h : SlAt w1 p c came) => rcheck_any ⟨3, n, owner, need, came, turns, there⟩ p c w1 h hm)
  unfold Ce.val at HK
  dsimp only at HK
  obtain ⟨W3, hW3⟩ : ∃ W3, W3 = ((w.alloc (.cells #[i64 3, i64 n, i64 owner, i64 need, .slice p came.length c, i64 turns, .bool there] 30)).alloc (.cells #[i64 ak, i64 ac, i64 ao, i64 an] 34)).alloc (.cells #[.int .i64 0, .int .i64 0, .int .i64 0, .int .i64 0, .slice none 0 0, .int .i64 0, .bool false] 30) := ⟨_, rfl⟩
  have HST3 := hid (one_start w ⟨3, n, owner, need, came, turns, there⟩ p c ⟨ak, ac, ao, an⟩ W3 hW3)
  have hs3 : SlAt W3 p c came := by rw [hW3]; exact ((hsl.alloc _).alloc _).alloc _
  have hb3 : Below w.heap.size w W3 := by rw [hW3]; exact (((Below.refl _ _).alloc (Nat.le_refl _) _).alloc (by simp) _).alloc (by simp; omega) _
  have hz3 : w.heap.size + 3 = W3.heap.size := by rw [hW3]; simp
  have HW3 := hid hW3
  have HZZ := hid hz3
  have hz3 : w.heap.size + 3 ≤ W3.heap.size := by omega
  clear hW3 HZZ
  have hck : ckP ⟨3, n, owner, need, came, turns, there⟩ = 0 := by unfold ckP; rw [hok]; rfl
  rw [hck] at HK
  have HIW := hid (risW_any wk)
  rw [hw] at HIW
  have hcl := ok_came hok
  have hg : 1 ≤ need ∧ need ≤ 64 ∧ (came.length : Int) < need ∧ 0 ≤ turns ∧ turns ≤ 1152921504606846976 ∧ cameN came came.length = true := (gateP_iff ⟨3, n, owner, need, came, turns, there⟩).1 (by simp [okP] at hok; exact hok.1.1.1)
  dsimp only at hcl
  have HS := hid (fun w1 (h : SlAt w1 p c came) => rbarrier_any ⟨3, n, owner, need, came, turns, there⟩ rfl wk ⟨ak, ac, ao, an⟩ p c w1 h hg.2.2.2.1 hg.2.2.2.2.1 hcl)
  have hPP : oneP ⟨3, n, owner, need, came, turns, there⟩ wk ⟨ak, ac, ao, an⟩ = stepP ⟨3, n, owner, need, came, turns, there⟩ wk ⟨ak, ac, ao, an⟩ := by unfold oneP; rw [hok, hw]; rfl
  rw [hPP]
  clear hPP hok hck hw
  generalize stepP ⟨3, n, owner, need, came, turns, there⟩ wk ⟨ak, ac, ao, an⟩ = r at HS ⊢
  obtain ⟨⟨kind', n', owner', need', came', turns', there'⟩, V, E⟩ := r
  unfold CeTellN Ce.val Ac.val at HS
  dsimp only [List.cons_append, List.nil_append] at HS
  clear hcl hg
  unfold Ce.val Ac.val
  dsimp only
  go_enter Try.func51, Try.ntmps51
  go_wp2_with (first
    | (go_at_call 58; rw [← HW3.out]; refine (HK.out _ hs3).mono ?_; rintro e w1 ⟨rfl, hb1⟩; have hs1 := hs3.below hb1; have hz1 := hb1.size; have HA1 := hid (HST3.out.1.below hb1); have HC1 := hid (HST3.out.2.1.below hb1); have HZ1 := hid (HST3.out.2.2.below hb1); have hbw1 := hb3.trans (hb1.mono (by omega)); obtain ⟨⟨a0, a1, a2, a3, a4, a5, a6⟩, af, al⟩ := HA1.out.facts; dsimp only at a0 a1 a2 a3 a4 a5 a6; obtain ⟨⟨c0, c1, c2, c3⟩, cl⟩ := HC1.out.facts; dsimp only at c0 c1 c2 c3; obtain ⟨⟨z0, z1, z2, z3, z4, z5, z6⟩, zf, zl⟩ := HZ1.out.facts; dsimp only [ce0, List.length_nil] at z0 z1 z2 z3 z4 z5 z6)
    | (go_at_call 60; refine (HIW.out w1).mono ?_; rintro e w2 ⟨rfl, rfl⟩)
    | (go_at_call 63; refine (HS.out _ hs1).mono ?_; rintro e w3 ⟨p3, c3, rfl, hs3', hl3, hb3'⟩; have HZ3 := hid (HZ1.out.below hb3'); have hbw3 := hbw1.trans (hb3'.mono hbw1.size); have hz3' := hb3'.size; obtain ⟨⟨y0, y1, y2, y3, y4, y5, y6⟩, yf, yl⟩ := HZ3.out.facts; dsimp only [ce0, List.length_nil] at y0 y1 y2 y3 y4 y5 y6))
  exact bodyPost_ret (v := .tuple #[(Ce.mk kind' n' owner' need' came' turns' there').val p3 c3, i64 V, i64 E]) (by simp [results, Try.results51, go_sem, Ce.val, y0, y1, y2, y3, y4, y5, y6]) rfl (by
    refine ⟨p3, c3, rfl, ?_, hl3.imp_right (fun h q hq => ⟨Nat.le_trans (by omega) (h q hq).1, by have := (h q hq).2; simp; omega⟩), ?_⟩
    · rcases hl3 with ⟨h1, h2, h3⟩ | hl3
      · dsimp only at h3 hs3' ⊢
        subst h1 h2 h3
        repeat (refine SlAt.setL ?_ hsl _ _ _ (by omega))
        exact hs3'
      · repeat (refine SlAt.set ?_ _ _ _ (fun q hq e => by have := hl3 q hq; omega))
        exact hs3'
    · repeat (refine Below.setCell ?_ (by first | omega | (simp; done) | (simp; omega)) _)
      exact hbw3)

set_option maxHeartbeats 2000000 in
theorem rone_4 (x : Ce) (p : Option Addr) (c : Nat) (wk : Int) (a : Ac) (w : World) (hsl : SlAt w p c x.came) (hm : x.came.length ≤ 17592186043904) (hk : x.kind = 4) (hok : okP x = true) (hw : isW wk = true) :
    Calls Try.prog 51 #[x.val p c, i64 wk, a.val] w (CeTellN p c x.came (oneP x wk a).1 [i64 (oneP x wk a).2.1, i64 (oneP x wk a).2.2] w) := by
  obtain ⟨kind, n, owner, need, came, turns, there⟩ := x
  obtain ⟨ak, ac, ao, an⟩ := a
  dsimp only at hsl hm hk
  subst hk
  have HK := hid (fun w1 (h : SlAt w1 p c came) => rcheck_any ⟨4, n, owner, need, came, turns, there⟩ p c w1 h hm)
  unfold Ce.val at HK
  dsimp only at HK
  obtain ⟨W3, hW3⟩ : ∃ W3, W3 = ((w.alloc (.cells #[i64 4, i64 n, i64 owner, i64 need, .slice p came.length c, i64 turns, .bool there] 30)).alloc (.cells #[i64 ak, i64 ac, i64 ao, i64 an] 34)).alloc (.cells #[.int .i64 0, .int .i64 0, .int .i64 0, .int .i64 0, .slice none 0 0, .int .i64 0, .bool false] 30) := ⟨_, rfl⟩
  have HST3 := hid (one_start w ⟨4, n, owner, need, came, turns, there⟩ p c ⟨ak, ac, ao, an⟩ W3 hW3)
  have hs3 : SlAt W3 p c came := by rw [hW3]; exact ((hsl.alloc _).alloc _).alloc _
  have hb3 : Below w.heap.size w W3 := by rw [hW3]; exact (((Below.refl _ _).alloc (Nat.le_refl _) _).alloc (by simp) _).alloc (by simp; omega) _
  have hz3 : w.heap.size + 3 = W3.heap.size := by rw [hW3]; simp
  have HW3 := hid hW3
  have HZZ := hid hz3
  have hz3 : w.heap.size + 3 ≤ W3.heap.size := by omega
  clear hW3 HZZ
  have hck : ckP ⟨4, n, owner, need, came, turns, there⟩ = 0 := by unfold ckP; rw [hok]; rfl
  rw [hck] at HK
  have HIW := hid (risW_any wk)
  rw [hw] at HIW
  have HS := hid (fun w1 (h : SlAt w1 p c came) => rfuture_any ⟨4, n, owner, need, came, turns, there⟩ rfl wk ⟨ak, ac, ao, an⟩ p c w1 h)
  have hPP : oneP ⟨4, n, owner, need, came, turns, there⟩ wk ⟨ak, ac, ao, an⟩ = stepP ⟨4, n, owner, need, came, turns, there⟩ wk ⟨ak, ac, ao, an⟩ := by unfold oneP; rw [hok, hw]; rfl
  rw [hPP]
  clear hPP hok hck hw
  generalize stepP ⟨4, n, owner, need, came, turns, there⟩ wk ⟨ak, ac, ao, an⟩ = r at HS ⊢
  obtain ⟨⟨kind', n', owner', need', came', turns', there'⟩, V, E⟩ := r
  unfold CeTellN Ce.val Ac.val at HS
  dsimp only [List.cons_append, List.nil_append] at HS
  unfold Ce.val Ac.val
  dsimp only
  go_enter Try.func51, Try.ntmps51
  go_wp2_with (first
    | (go_at_call 58; rw [← HW3.out]; refine (HK.out _ hs3).mono ?_; rintro e w1 ⟨rfl, hb1⟩; have hs1 := hs3.below hb1; have hz1 := hb1.size; have HA1 := hid (HST3.out.1.below hb1); have HC1 := hid (HST3.out.2.1.below hb1); have HZ1 := hid (HST3.out.2.2.below hb1); have hbw1 := hb3.trans (hb1.mono (by omega)); obtain ⟨⟨a0, a1, a2, a3, a4, a5, a6⟩, af, al⟩ := HA1.out.facts; dsimp only at a0 a1 a2 a3 a4 a5 a6; obtain ⟨⟨c0, c1, c2, c3⟩, cl⟩ := HC1.out.facts; dsimp only at c0 c1 c2 c3; obtain ⟨⟨z0, z1, z2, z3, z4, z5, z6⟩, zf, zl⟩ := HZ1.out.facts; dsimp only [ce0, List.length_nil] at z0 z1 z2 z3 z4 z5 z6)
    | (go_at_call 60; refine (HIW.out w1).mono ?_; rintro e w2 ⟨rfl, rfl⟩)
    | (go_at_call 64; refine (HS.out _ hs1).mono ?_; rintro e w3 ⟨p3, c3, rfl, hs3', hl3, hb3'⟩; have HZ3 := hid (HZ1.out.below hb3'); have hbw3 := hbw1.trans (hb3'.mono hbw1.size); have hz3' := hb3'.size; obtain ⟨⟨y0, y1, y2, y3, y4, y5, y6⟩, yf, yl⟩ := HZ3.out.facts; dsimp only [ce0, List.length_nil] at y0 y1 y2 y3 y4 y5 y6))
  exact bodyPost_ret (v := .tuple #[(Ce.mk kind' n' owner' need' came' turns' there').val p3 c3, i64 V, i64 E]) (by simp [results, Try.results51, go_sem, Ce.val, y0, y1, y2, y3, y4, y5, y6]) rfl (by
    refine ⟨p3, c3, rfl, ?_, hl3.imp_right (fun h q hq => ⟨Nat.le_trans (by omega) (h q hq).1, by have := (h q hq).2; simp; omega⟩), ?_⟩
    · rcases hl3 with ⟨h1, h2, h3⟩ | hl3
      · dsimp only at h3 hs3' ⊢
        subst h1 h2 h3
        repeat (refine SlAt.setL ?_ hsl _ _ _ (by omega))
        exact hs3'
      · repeat (refine SlAt.set ?_ _ _ _ (fun q hq e => by have := hl3 q hq; omega))
        exact hs3'
    · repeat (refine Below.setCell ?_ (by first | omega | (simp; done) | (simp; omega)) _)
      exact hbw3)

theorem rone_anyN (x : Ce) (p : Option Addr) (c : Nat) (wk : Int) (a : Ac) (w : World) (hsl : SlAt w p c x.came) (hm : x.came.length ≤ 17592186043904) :
    Calls Try.prog 51 #[x.val p c, i64 wk, a.val] w (CeTellN p c x.came (oneP x wk a).1 [i64 (oneP x wk a).2.1, i64 (oneP x wk a).2.2] w) := by
  cases hok : okP x with
  | false => exact rone_bad x p c wk a w hsl hm hok
  | true =>
    cases hw : isW wk with
    | false => exact rone_noW x p c wk a w hsl hm hok hw
    | true =>
      rcases okP_kind x hok with hk | hk | hk | hk
      · exact rone_1 x p c wk a w hsl hm hk hok hw
      · exact rone_2 x p c wk a w hsl hm hk hok hw
      · exact rone_3 x p c wk a w hsl hm hk hok hw
      · exact rone_4 x p c wk a w hsl hm hk hok hw
theorem rone_any (x : Ce) (p : Option Addr) (c : Nat) (wk : Int) (a : Ac) (w : World) (hsl : SlAt w p c x.came) (hm : x.came.length ≤ 17592186043904) :
    Calls Try.prog 51 #[x.val p c, i64 wk, a.val] w (CeTell (oneP x wk a).1 [i64 (oneP x wk a).2.1, i64 (oneP x wk a).2.2] w) :=
  (rone_anyN x p c wk a w hsl hm).mono fun _ _ ⟨p', c', he, hs, _, hb⟩ => ⟨p', c', he, hs, hb⟩
end Go.Proofs.Ythmockfeffikjaa
