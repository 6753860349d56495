/- Within a round: the greatest has not claimed yet, or leads. Plain law. Condition: m is the greatest that is up, none else claims. -/
import Derived.Test.YtccmnphjiebiaaaTm
namespace Go.Proofs.Ytccmnphjiebiaaa
set_option linter.unusedVariables false
set_option linter.unusedSimpArgs false
/-- The greatest has not claimed in this round; Lo: who else leads with the log's term T0; be: whether words of his are on their way. -/
structure Co (n : Nat) (U : Nat → Bool) (m : Nat) (Lo : Option Nat) (ll T0 : Int) (be : Bool) (t : Tw) (cur : List Wd) : Prop where
  T : t.T = T0
  r : ∀ k, k < n → U k = true → k ≠ m → ((t.b k).x.role = 4 ↔ Lo = some k)
  L : ∀ L, Lo = some L → L < n ∧ U L = true ∧ L ≠ m ∧ (t.b L).x.term = T0 ∧ (t.b L).left = ll
  w : ∀ y, pend n U t cur y → y.k = 3 → be = true ∧ ∃ L, Lo = some L ∧ y.f = L ∧ y.m = T0
  m4 : (t.b m).x.role ≠ 4
/-- The greatest leads with the log's term. -/
structure PL (n : Nat) (U : Nat → Bool) (m : Nat) (lm : Int) (t : Tw) (cur : List Wd) : Prop where
  r : (t.b m).x.role = 4
  T : (t.b m).x.term = t.T
  l : (t.b m).left = lm
  w : ∀ y, pend n U t cur y → y.k = 3 → y.t = m → y.m < t.T
/-- What a word that is none of Lead leaves of a node. -/
theorem quiet_word {n k : Nat} {U : Nat → Bool} {T : Int} {s : PN} {w : Wd} (g : Gn n k T s) (hT : T ≤ 1000000) (hk : k < n) (hv : Vw n U T w) (ht : w.t = k) (h3 : w.k ≠ 3) :
    ((s.take w).x.role = 4 ↔ s.x.role = 4) ∧ (s.take w).x.term = s.x.term ∧ (s.take w).left = s.left ∧ (s.take w).x.lead = s.x.lead := by
  obtain ⟨f, hf, hfk, hUf, hh⟩ := g.take_cases (by omega) hk hv ht
  rcases hh with ⟨hw', hlt, ⟨h0, e⟩ | ⟨h0, hl, e⟩ | ⟨h0, hl, e⟩⟩ | ⟨hw', hlt, ⟨h0, e⟩ | ⟨h0, e⟩⟩ | ⟨mm, hw', -⟩
  · rw [e]; simp
  · rw [e]; simp [h0]
  · rw [e]; simp [h0]
  · rw [e]; simp [h0]
  · rw [e]; simp
  · rw [hw'] at h3; exact absurd rfl h3
theorem new_quiet {n k : Nat} {w : Wd} {nw : List Wd} (hnew : ∀ y ∈ nw, (∃ f : Nat, w = elW f k ∧ f < k ∧ f < n ∧ y = ansW k f) ∨ (∃ f t : Nat, w = elW f k ∧ f < k ∧ k < t ∧ t < n ∧ y = elW k t)) : ∀ y ∈ nw, y.k ≠ 3 := by
  intro y hy
  rcases hnew y hy with ⟨f, -, -, -, rfl⟩ | ⟨f, t, -, -, -, -, rfl⟩ <;> simp [ansW, elW]
section
variable {n m : Nat} {U : Nat → Bool} {t : Tw} {w y : Wd} {cur : List Wd} {Lo : Option Nat} {ll lm T0 : Int} {be : Bool}
theorem Co.move (hi : Co n U m Lo ll T0 be t []) : Co n U m Lo ll T0 be { t with l := [] } t.l := ⟨hi.T, hi.r, hi.L, fun y hy => hi.w y (pend_move.1 hy), hi.m4⟩
theorem PL.move (hi : PL n U m lm t []) : PL n U m lm { t with l := [] } t.l := ⟨hi.r, hi.T, hi.l, fun y hy => hi.w y (pend_move.1 hy)⟩
theorem Co.put (hT : t.T ≤ 1000000) (h : G n U t (w :: cur)) (hi : Co n U m Lo ll T0 be t (w :: cur)) (h3 : w.k ≠ 3) (hm : m < n) : Co n U m Lo ll T0 be (put1 n U t w) cur := by
  have hv := h.w w (pend_cons.2 (.inl rfl))
  rcases put_cases h with ⟨e, hno⟩ | ⟨k0, hk0, hU0, hw, e⟩ <;> rw [e]
  · exact ⟨hi.T, hi.r, hi.L, fun y hy => hi.w y (pend_cons.2 (.inr hy)), hi.m4⟩
  obtain ⟨nw, hnw, -, hnew⟩ := (h.g k0 hk0).take_new (by omega) hk0 hv hw
  obtain ⟨q1, q2, q3, -⟩ := quiet_word (h.g k0 hk0) hT hk0 hv hw h3
  have key : ∀ k, (((t.set k0 ((t.b k0).take w)).b k).x.role = 4 ↔ (t.b k).x.role = 4) ∧ ((t.set k0 ((t.b k0).take w)).b k).x.term = (t.b k).x.term ∧ ((t.set k0 ((t.b k0).take w)).b k).left = (t.b k).left := by
    intro k
    by_cases ek : k = k0
    · subst ek; rw [Tw.set_same]; exact ⟨q1, q2, q3⟩
    · rw [Tw.set_ne _ _ ek]; exact ⟨Iff.rfl, rfl, rfl⟩
  refine ⟨hi.T, fun k hk hU hkm => (key k).1.trans (hi.r k hk hU hkm), fun L hL => ?_, fun y hy h3' => ?_, fun h4 => hi.m4 ((key m).1.1 h4)⟩
  · obtain ⟨a, b, c, d, e⟩ := hi.L L hL
    exact ⟨a, b, c, by rw [(key L).2.1]; exact d, by rw [(key L).2.2]; exact e⟩
  · rcases (pend_set hk0 hU0 hnw).1 hy with hy | hy
    · exact hi.w y (pend_cons.2 (.inr hy)) h3'
    · exact absurd h3' (new_quiet hnew y hy)
theorem PL.put (hT : t.T ≤ 1000000) (h : G n U t (w :: cur)) (hi : PL n U m lm t (w :: cur)) (hm : m < n) : PL n U m lm (put1 n U t w) cur := by
  have hv := h.w w (pend_cons.2 (.inl rfl))
  rcases put_cases h with ⟨e, hno⟩ | ⟨k0, hk0, hU0, hw, e⟩ <;> rw [e]
  · exact ⟨hi.r, hi.T, hi.l, fun y hy => hi.w y (pend_cons.2 (.inr hy))⟩
  obtain ⟨nw, hnw, -, hnew⟩ := (h.g k0 hk0).take_new (by omega) hk0 hv hw
  have hwp : ∀ y, pend n U (t.set k0 ((t.b k0).take w)) cur y → y.k = 3 → y.t = m → y.m < t.T := fun y hy h3' => by
    rcases (pend_set hk0 hU0 hnw).1 hy with hy | hy
    · exact hi.w y (pend_cons.2 (.inr hy)) h3'
    · exact absurd h3' (new_quiet hnew y hy)
  by_cases ek : m = k0
  · subst ek
    have hr := hi.r
    obtain ⟨f, hf, hfk, hUf, hh⟩ := (h.g m hk0).take_cases (by omega) hk0 hv hw
    have hs : ((t.b m).take w).x.role = 4 ∧ ((t.b m).take w).x.term = t.T ∧ ((t.b m).take w).left = lm := by
      rcases hh with ⟨hw', hlt, ⟨h0, e⟩ | ⟨h0, hl, e⟩ | ⟨h0, hl, e⟩⟩ | ⟨hw', hlt, ⟨h0, e⟩ | ⟨h0, e⟩⟩ | ⟨mm, hw', hm1, hm2, ⟨h0, e⟩ | ⟨h0, e⟩⟩
      · rw [e]; exact ⟨hi.r, hi.T, hi.l⟩
      · omega
      · omega
      · omega
      · rw [e]; exact ⟨hi.r, hi.T, hi.l⟩
      · exfalso
        have := hi.w w (pend_cons.2 (.inl rfl)) (by rw [hw']; rfl) hw
        have := hi.T
        rw [hw'] at *
        simp only [ldW] at *
        omega
      · rw [e]; exact ⟨hi.r, hi.T, hi.l⟩
    exact ⟨by rw [Tw.set_same]; exact hs.1, by rw [Tw.set_same]; exact hs.2.1, by rw [Tw.set_same]; exact hs.2.2, hwp⟩
  · exact ⟨by rw [Tw.set_ne _ _ ek]; exact hi.r, by rw [Tw.set_ne _ _ ek]; exact hi.T, by rw [Tw.set_ne _ _ ek]; exact hi.l, hwp⟩
theorem PL.gat {k0 : Nat} (hk0 : k0 < n) (hU0 : U k0 = true) (hT : t.T ≤ 1000000) (h : G n U t cur) (h3 : N3 n U m t cur) (hi : PL n U m lm t cur) : PL n U m lm (gat1 n t k0) cur := by
  have hno : (t.b k0).x.role ≠ 3 := by
    by_cases ek : k0 = m
    · subst ek; rw [hi.r]; decide
    · exact h3 k0 hk0 hU0 ek
  rcases gat_cases h hT hk0 with ⟨-, e⟩ | ⟨h3', -⟩ | ⟨h3', -⟩
  · have hT1 : (gat1 n t k0).T = t.T := by rw [e]
    have hs : ((gat1 n t k0).b m).x.role = (t.b m).x.role ∧ ((gat1 n t k0).b m).x.term = (t.b m).x.term ∧ ((gat1 n t k0).b m).left = (t.b m).left := by
      by_cases ek : m = k0
      · subst ek
        have hs : (gat1 n t m).b m = { (t.b m) with x := { (t.b m).x with ws := [] } } := by rw [e]; exact Tw.set_same _ _ _
        rw [hs]; exact ⟨rfl, rfl, rfl⟩
      · rw [gat1_b (Ne.symm ek)]; exact ⟨rfl, rfl, rfl⟩
    refine ⟨by rw [hs.1]; exact hi.r, by rw [hs.2.1, hT1]; exact hi.T, by rw [hs.2.2]; exact hi.l, fun y hy => ?_⟩
    rw [hT1]
    rw [e] at hy
    rcases (pend_flush hk0 hU0 rfl).1 hy with hy | hy
    · exact hi.w y hy
    · cases hy
  · exact absurd h3' hno
  · exact absurd h3' hno
/-- Gathering at a node that wants no claim. -/
theorem Co.gat {k0 : Nat} (hk0 : k0 < n) (hU0 : U k0 = true) (hT : t.T ≤ 1000000) (h : G n U t cur) (h3 : (t.b k0).x.role ≠ 3) (hi : Co n U m Lo ll T0 be t cur) : Co n U m Lo ll T0 be (gat1 n t k0) cur ∧ (gat1 n t k0).b k0 = { (t.b k0) with x := { (t.b k0).x with ws := [] } } ∧ ∀ y, pend n U (gat1 n t k0) cur y ↔ pend n U t cur y := by
  rcases gat_cases h hT hk0 with ⟨-, e⟩ | ⟨h3', -⟩ | ⟨h3', -⟩
  · have hs : (gat1 n t k0).b k0 = { (t.b k0) with x := { (t.b k0).x with ws := [] } } := by rw [e]; exact Tw.set_same _ _ _
    have hp : ∀ y, pend n U (gat1 n t k0) cur y ↔ pend n U t cur y := fun y => by
      rw [e, pend_flush hk0 hU0 rfl]
      simp
    have key : ∀ k, ((gat1 n t k0).b k).x.role = (t.b k).x.role ∧ ((gat1 n t k0).b k).x.term = (t.b k).x.term ∧ ((gat1 n t k0).b k).left = (t.b k).left := by
      intro k
      by_cases ek : k = k0
      · subst ek; rw [hs]; exact ⟨rfl, rfl, rfl⟩
      · rw [gat1_b (Ne.symm ek)]; exact ⟨rfl, rfl, rfl⟩
    refine ⟨⟨by rw [e]; exact hi.T, fun k hk hU hkm => by rw [(key k).1]; exact hi.r k hk hU hkm, fun L hL => ?_, fun y hy => hi.w y ((hp y).1 hy), by rw [(key m).1]; exact hi.m4⟩, hs, hp⟩
    obtain ⟨a, b, c, d, e⟩ := hi.L L hL
    exact ⟨a, b, c, by rw [(key L).2.1]; exact d, by rw [(key L).2.2]; exact e⟩
  · exact absurd h3' h3
  · exact absurd h3' h3
/-- What is said of the greatest while it has not claimed. -/
structure Ph (n m : Nat) (T0 : Int) (Φ : PN → Prop) : Prop where
  e1 : ∀ s ws xs, Φ s → s.x.role ≠ 0 → s.x.role ≠ 4 → Φ { s with x := { s.x with ws := ws }, xs := xs }
  e2 : ∀ s ws xs, Φ s → s.x.role = 0 → m + 1 < n → Φ { s with x := { s.x with role := 1, ticks := 0, ws := ws }, xs := xs }
  e3 : ∀ s ws xs, Φ s → s.x.role = 0 → m + 1 = n → Φ { s with x := { s.x with role := 3, ticks := 0, ws := ws }, xs := xs }
  f : ∀ s, Φ s → s.x.role = 3 → s.x.term < T0 → Φ { s with x := { s.x with term := T0, role := 0, ticks := 0, lead := -1, ws := [] } }
  o : ∀ s, Φ s → Φ { s with x := { s.x with ws := [] } }
/-- The greatest has not claimed, and is as Φ says, or leads. -/
def Mo (n : Nat) (U : Nat → Bool) (m : Nat) (Lo : Option Nat) (ll lm T0 : Int) (be : Bool) (Φ : PN → Prop) (t : Tw) (cur : List Wd) : Prop :=
  N3 n U m t cur ∧ ((Co n U m Lo ll T0 be t cur ∧ Φ (t.b m) ∧ (t.b m).left = lm) ∨ PL n U m lm t cur)
theorem Mo.move {Φ : PN → Prop} (hi : Mo n U m Lo ll lm T0 be Φ t []) : Mo n U m Lo ll lm T0 be Φ { t with l := [] } t.l := ⟨hi.1, hi.2.imp (fun h => ⟨h.1.move, h.2⟩) (fun h => h.move)⟩
theorem no_ans {k : Nat} (hm : Mx n U m) (hf : U k = true) (hk : k < n) (h : m < k) : False := by have := hm.le k hk hf; omega
theorem Mo.put {Φ : PN → Prop} (hΦ : Ph n m T0 Φ) (hm : Mx n U m) (hT : t.T ≤ 1000000) (h : G n U t (w :: cur)) (hi : Mo n U m Lo ll lm T0 false Φ t (w :: cur)) : Mo n U m Lo ll lm T0 false Φ (put1 n U t w) cur := by
  obtain ⟨h3, hc⟩ := hi
  refine ⟨h3.put hm hT h, ?_⟩
  rcases hc with ⟨hc, hφ, hl⟩ | hp
  · left
    have hw3 : w.k ≠ 3 := fun e => by have := (hc.w w (pend_cons.2 (.inl rfl)) e).1; cases this
    refine ⟨hc.put hT h hw3 hm.lt, ?_⟩
    have hv := h.w w (pend_cons.2 (.inl rfl))
    rcases put_cases h with ⟨e, hno⟩ | ⟨k0, hk0, hU0, hw, e⟩ <;> rw [e]
    · exact ⟨hφ, hl⟩
    by_cases ek : m = k0
    · subst ek
      rw [Tw.set_same]
      have hm4 := hc.m4
      obtain ⟨f, hf, hfk, hUf, hh⟩ := (h.g m hk0).take_cases (by omega) hk0 hv hw
      rcases hh with ⟨hw', hlt, ⟨h0, e⟩ | ⟨h0, hl', e⟩ | ⟨h0, hl', e⟩⟩ | ⟨hw', hlt, -⟩ | ⟨mm, hw', -⟩
      · rw [e]; exact ⟨hΦ.e1 _ _ _ hφ h0 hm4, hl⟩
      · rw [e]; exact ⟨hΦ.e2 _ _ _ hφ h0 hl', hl⟩
      · rw [e]; exact ⟨hΦ.e3 _ _ _ hφ h0 hl', hl⟩
      · exact (no_ans hm hUf hf hlt).elim
      · rw [hw'] at hw3; exact absurd rfl hw3
    · rw [Tw.set_ne _ _ ek]; exact ⟨hφ, hl⟩
  · exact .inr (hp.put hT h hm.lt)
theorem Mo.gat {Φ : PN → Prop} (hΦ : Ph n m T0 Φ) (hm : Mx n U m) {k0 : Nat} (hk0 : k0 < n) (hU0 : U k0 = true) (hT : t.T ≤ 1000000) (h : G n U t cur) (hi : Mo n U m Lo ll lm T0 be Φ t cur) : Mo n U m Lo ll lm T0 be Φ (gat1 n t k0) cur := by
  obtain ⟨h3, hc⟩ := hi
  refine ⟨h3.gat hk0 hU0 hT h, ?_⟩
  rcases hc with ⟨hc, hφ, hl⟩ | hp
  · by_cases ek : k0 = m
    · subst ek
      rcases gat_cases h hT hk0 with ⟨hn3, e⟩ | ⟨hn3, ht, e⟩ | ⟨hn3, ht, e⟩
      · left
        obtain ⟨a, b, -⟩ := hc.gat hk0 hU0 hT h hn3
        refine ⟨a, ?_⟩
        rw [b]; exact ⟨hΦ.o _ hφ, hl⟩
      · right
        have hs : (gat1 n t k0).b k0 = { (t.b k0) with x := { (t.b k0).x with term := t.T + 1, role := 4, ticks := 0, lead := k0, ws := [] } } := by rw [e]; exact Tw.set_same _ _ _
        have hT1 : (gat1 n t k0).T = t.T + 1 := by rw [e]
        refine ⟨by rw [hs], by rw [hs, hT1], by rw [hs]; exact hl, fun y hy hy3 hyt => ?_⟩
        rw [hT1]
        rw [e] at hy
        rcases (pend_flush hk0 hU0 rfl).1 hy with hy | hy
        · obtain ⟨-, L, -, -, q⟩ := hc.w y hy hy3
          have := hc.T
          omega
        · obtain ⟨j, h1, h2, rfl⟩ := lds_mem.1 hy
          simp only [ldW] at hyt
          omega
      · left
        have hs : (gat1 n t k0).b k0 = { (t.b k0) with x := { (t.b k0).x with term := t.T, role := 0, ticks := 0, lead := -1, ws := [] } } := by rw [e]; exact Tw.set_same _ _ _
        refine ⟨⟨by rw [e]; exact hc.T, fun k hk hU hkm => by rw [gat1_b (Ne.symm hkm)]; exact hc.r k hk hU hkm, fun L hL => ?_, fun y hy => ?_, by rw [hs]; simp⟩, ?_, by rw [hs]; exact hl⟩
        · obtain ⟨a, b, c, d⟩ := hc.L L hL
          rw [gat1_b (Ne.symm c)]
          exact ⟨a, b, c, d⟩
        · rw [e] at hy
          rcases (pend_flush hk0 hU0 rfl).1 hy with hy | hy
          · exact hc.w y hy
          · cases hy
        · rw [hs]
          have := hΦ.f _ hφ hn3 (by rw [hc.T] at ht; exact ht)
          rw [hc.T]
          exact this
    · left
      obtain ⟨a, -, -⟩ := hc.gat hk0 hU0 hT h (h3 k0 hk0 hU0 ek)
      exact ⟨a, by rw [gat1_b ek]; exact ⟨hφ, hl⟩⟩
  · exact .inr (hp.gat hk0 hU0 hT h h3)
theorem Mo.gath {Φ : PN → Prop} (hΦ : Ph n m T0 Φ) (hm : Mx n U m) (h : G n U t []) (hi : Mo n U m Lo ll lm T0 be Φ t []) (hT : t.T + n ≤ 1000000) : Mo n U m Lo ll lm T0 be Φ (gath n U t) [] :=
  (gath_ind (Inv := Mo n U m Lo ll lm T0 be Φ) (fun t k hk hU hT h hi => hi.gat hΦ hm hk hU hT h) h hi hT).2.1
theorem Mo.dlv {Φ : PN → Prop} (hΦ : Ph n m T0 Φ) (hm : Mx n U m) (f : Nat) (h : G n U t []) (hi : Mo n U m Lo ll lm T0 false Φ t []) (hT : t.T + f * n ≤ 1000000) : Mo n U m Lo ll lm T0 false Φ (dlv n U f t) [] :=
  (dlv_ind (Inv := Mo n U m Lo ll lm T0 false Φ) (fun t w cur hT h hi => hi.put hΦ hm hT h) (fun t k hk hU hT h hi => hi.gat hΦ hm hk hU hT h) (fun t hi => hi.move) f t hT h hi).2.1
/-- How far the greatest is from a claim of its own. -/
def mu (T0 : Int) (s : PN) : Int :=
  (if s.x.term < T0 then 4 else 0) + (if s.x.role = 0 then 3 + (if aliveB s.xs 8 s.x.lead = true then 8 - at_ s.xs s.x.lead else 0) else if s.x.role = 1 then 2 - s.x.ticks else if s.x.role = 2 then 7 - s.x.ticks else if s.x.role = 3 then 0 else 20)
/-- Less than M is left; a claim that fails has time. -/
def PhM (T0 M : Int) (s : PN) : Prop := (s.x.role = 3 → s.x.term < T0 → 4 ≤ M) ∧ (s.x.role ≠ 3 → s.x.role ≠ 4 → mu T0 s ≤ M)
theorem alive_lt {xs : List Int} {k : Int} (h : aliveB xs 8 k = true) : at_ xs k < 8 := by
  unfold aliveB at h
  simp at h
  exact h.2
theorem ph_mu (n m : Nat) (T0 M : Int) : Ph n m T0 (PhM T0 M) := by
  refine ⟨fun s ws xs h h0 h4 => ?_, fun s ws xs h h0 hl => ?_, fun s ws xs h h0 hl => ?_, fun s h h3 ht => ?_, fun s h => ?_⟩
  · refine ⟨h.1, fun h3 h4 => ?_⟩
    have := h.2 h3 h4
    unfold mu at this ⊢
    simp only [h0, if_false] at this ⊢
    exact this
  · refine ⟨fun h3 => by simp at h3, fun _ _ => ?_⟩
    have := h.2 (by omega) (by omega)
    unfold mu at this ⊢
    simp only [h0, if_true] at this
    simp
    split at this
    · next hh => rw [if_pos hh]; split at this <;> first | omega | (next h8 => have := alive_lt h8; omega)
    · next hh => rw [if_neg hh]; split at this <;> first | omega | (next h8 => have := alive_lt h8; omega)
  · refine ⟨fun _ ht => ?_, fun h3 => by simp at h3⟩
    have := h.2 (by omega) (by omega)
    unfold mu at this
    simp only at ht
    simp only [h0, if_true, ht] at this
    split at this <;> first | omega | (next h8 => have := alive_lt h8; omega)
  · refine ⟨fun h3' => by simp at h3', fun _ _ => ?_⟩
    have h4 := h.1 h3 ht
    unfold mu
    simp [aliveB, inR]
    omega
  · exact ⟨h.1, h.2⟩
theorem ph_claim (n m : Nat) (T0 : Int) : Ph n m T0 (fun s => s.x.role = 3 ∧ s.x.term = T0) := by
  refine ⟨fun s ws xs h h0 h4 => h, fun s ws xs h h0 hl => by omega, fun s ws xs h h0 hl => by omega, fun s h h3 ht => by omega, fun s h => h⟩
theorem at_tick {xs : List Int} {me k : Int} {n : Nat} (h8 : XB xs 8) (hl : xs.length = n) (hk : k ≠ me) (hr : inR k n = true) : at_ (tickL me 8 xs) k = (if 8 < at_ xs k + 1 then 8 else at_ xs k + 1) := by
  unfold inR at hr
  simp at hr
  unfold at_
  rw [List.getD_eq_getElem?_getD, List.getD_eq_getElem?_getD, tickL_get]
  have hlt : k.toNat < xs.length := by omega
  rw [List.getElem?_eq_getElem hlt]
  simp only [Option.map_some, Option.getD_some]
  rw [if_pos (by omega)]
end
end Go.Proofs.Ytccmnphjiebiaaa
