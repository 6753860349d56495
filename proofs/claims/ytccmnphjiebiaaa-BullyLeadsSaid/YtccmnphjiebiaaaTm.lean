/- What holds within a round: who asks is answered by the greatest that is up; the greatest's claim. Plain law. Condition: m is the greatest that is up. -/
import Derived.Test.YtccmnphjiebiaaaTr
namespace Go.Proofs.Ytccmnphjiebiaaa
set_option linter.unusedVariables false
set_option linter.unusedSimpArgs false
/-- m is the greatest that is up. -/
structure Mx (n : Nat) (U : Nat → Bool) (m : Nat) : Prop where
  lt : m < n
  up : U m = true
  le : ∀ k, k < n → U k = true → k ≤ m
/-- Who asks waits for the greatest's answer, or has asked of old. -/
def NA (n : Nat) (U : Nat → Bool) (m : Nat) (old : Nat → Prop) (t : Tw) (cur : List Wd) : Prop :=
  ∀ k, k < n → U k = true → k ≠ m → (t.b k).x.role = 1 → ((t.b k).x.ticks = 0 ∧ (pend n U t cur (elW k m) ∨ pend n U t cur (ansW m k))) ∨ ((t.b k).x.ticks = 1 ∧ old k)
def N3 (n : Nat) (U : Nat → Bool) (m : Nat) (t : Tw) (cur : List Wd) : Prop := ∀ k, k < n → U k = true → k ≠ m → (t.b k).x.role ≠ 3
theorem elW_inj {a b c d : Nat} (h : elW a b = elW c d) : a = c ∧ b = d := by
  simp only [elW, Wd.mk.injEq] at h
  omega
theorem ansW_inj {a b c d : Nat} (h : ansW a b = ansW c d) : a = c ∧ b = d := by
  simp only [ansW, Wd.mk.injEq] at h
  omega
section
variable {n m : Nat} {U : Nat → Bool} {t : Tw} {w y : Wd} {cur : List Wd} {old : Nat → Prop}
theorem pend_rest (r : Rb n t) (hl : t.l = []) : ¬ pend n U t [] y := by
  rintro (h | h | ⟨k, hk, -, h⟩)
  · cases h
  · rw [hl] at h; cases h
  · rw [r.w k hk] at h; cases h
theorem NA.put (hm : Mx n U m) (hT : t.T ≤ 1000000) (h : G n U t (w :: cur)) (hi : NA n U m old t (w :: cur)) : NA n U m old (put1 n U t w) cur := by
  have hv := h.w w (pend_cons.2 (.inl rfl))
  rcases put_cases h with ⟨e, hno⟩ | ⟨k0, hk0, hU0, hw, e⟩ <;> rw [e]
  · intro k hk hU hkm h1
    rcases hi k hk hU hkm h1 with ⟨a, b | b⟩ | b
    · rcases pend_cons.1 b with b | b
      · exact absurd (hno m (by rw [← b]; rfl) hm.lt hm.up) id
      · exact .inl ⟨a, .inl b⟩
    · rcases pend_cons.1 b with b | b
      · exact absurd (hno k (by rw [← b]; rfl) hk hU) id
      · exact .inl ⟨a, .inr b⟩
    · exact .inr b
  obtain ⟨nw, hnw, -, hnew⟩ := (h.g k0 hk0).take_new (by omega) hk0 hv hw
  obtain ⟨f, hf, hfk, hUf, hh⟩ := (h.g k0 hk0).take_cases (by omega) hk0 hv hw
  have hkeep : ∀ y, pend n U t cur y → pend n U (t.set k0 ((t.b k0).take w)) cur y := fun y hy => (pend_set hk0 hU0 hnw).2 (.inl hy)
  have hnws : ∀ y ∈ ((t.b k0).take w).x.ws, pend n U (t.set k0 ((t.b k0).take w)) cur y := fun y hy => .inr (.inr ⟨k0, hk0, hU0, by rw [Tw.set_same]; exact hy⟩)
  intro k hk hU hkm h1
  by_cases ek : k = k0
  · subst ek
    rw [Tw.set_same] at h1 ⊢
    have old_pend : (t.b k).x.role = 1 → w ≠ elW k m → w ≠ ansW m k → ((t.b k).x.ticks = 0 ∧ (pend n U (t.set k ((t.b k).take w)) cur (elW k m) ∨ pend n U (t.set k ((t.b k).take w)) cur (ansW m k))) ∨ ((t.b k).x.ticks = 1 ∧ old k) := by
      intro r1 q1 q2
      rcases hi k hk hU hkm r1 with ⟨a, b | b⟩ | b
      · rcases pend_cons.1 b with b | b
        · exact absurd b.symm q1
        · exact .inl ⟨a, .inl (hkeep _ b)⟩
      · rcases pend_cons.1 b with b | b
        · exact absurd b.symm q2
        · exact .inl ⟨a, .inr (hkeep _ b)⟩
      · exact .inr b
    rcases hh with ⟨hw', hlt, ⟨h0, e⟩ | ⟨h0, hl, e⟩ | ⟨h0, hl, e⟩⟩ | ⟨hw', hlt, ⟨h0, e⟩ | ⟨h0, e⟩⟩ | ⟨mm, hw', hm1, hm2, ⟨h0, e⟩ | ⟨h0, e⟩⟩
    · rw [e] at h1
      rw [e]
      have := old_pend h1 (by rw [hw']; intro q; have := elW_inj q; omega) (by rw [hw']; intro q; simp [elW, ansW] at q)
      rw [e] at this
      exact this
    · have hmem : elW k m ∈ ((t.b k).take w).x.ws := by
        rw [e]
        exact List.mem_append_right _ (els_mem.2 ⟨m, by have := hm.le k hk hU; omega, hm.lt, rfl⟩)
      have hp := hnws _ hmem
      rw [e] at hp ⊢
      exact .inl ⟨rfl, .inl hp⟩
    · rw [e] at h1; simp at h1
    · rw [e] at h1; simp at h1
    · rw [e] at h1; exact absurd h1 h0
    · rw [e] at h1; simp at h1
    · rw [e] at h1
      have := old_pend h1 (by rw [hw']; intro q; simp [elW, ldW] at q) (by rw [hw']; intro q; simp [ldW, ansW] at q)
      rw [e] at this ⊢
      exact this
  · rw [Tw.set_ne _ _ ek] at h1 ⊢
    rcases hi k hk hU hkm h1 with ⟨a, b | b⟩ | b
    · rcases pend_cons.1 b with b | b
      · refine .inl ⟨a, .inr ?_⟩
        have hk0m : k0 = m := by
          rw [← b] at hw
          simp only [elW] at hw
          omega
        subst hk0m
        have : ansW k0 k ∈ ((t.b k0).take w).x.ws := by
          rcases hh with ⟨hw', hlt, ⟨h0, e⟩ | ⟨h0, hl, e⟩ | ⟨h0, hl, e⟩⟩ | ⟨hw', -⟩ | ⟨mm, hw', -⟩
          · rw [e]; obtain ⟨rfl, -⟩ := elW_inj (b.trans hw'); simp
          · rw [e]; obtain ⟨rfl, -⟩ := elW_inj (b.trans hw'); simp
          · rw [e]; obtain ⟨rfl, -⟩ := elW_inj (b.trans hw'); simp
          · rw [← b] at hw'; simp [elW, ansW] at hw'
          · rw [← b] at hw'; simp [elW, ldW] at hw'
        exact hnws _ this
      · exact .inl ⟨a, .inl (hkeep _ b)⟩
    · rcases pend_cons.1 b with b | b
      · exfalso
        rw [← b] at hw
        simp only [ansW] at hw
        omega
      · exact .inl ⟨a, .inr (hkeep _ b)⟩
    · exact .inr b
theorem NA.gat {k0 : Nat} (hk0 : k0 < n) (hU0 : U k0 = true) (hT : t.T ≤ 1000000) (h : G n U t cur) (hi : NA n U m old t cur) : NA n U m old (gat1 n t k0) cur := by
  have hkeep : ∀ y, pend n U t cur y → pend n U (gat1 n t k0) cur y := fun y hy => by
    rcases gat_cases h hT hk0 with ⟨h3, e⟩ | ⟨h3, ht, e⟩ | ⟨h3, ht, e⟩ <;> rw [e] <;> exact (pend_flush hk0 hU0 rfl).2 (.inl hy)
  intro k hk hU hkm h1
  have hsame : (t.b k).x.role = 1 ∧ ((gat1 n t k0).b k).x.ticks = (t.b k).x.ticks := by
    by_cases ek : k = k0
    · subst ek
      rcases gat_cases h hT hk0 with ⟨h3, e⟩ | ⟨h3, ht, e⟩ | ⟨h3, ht, e⟩
      · have hs : (gat1 n t k).b k = { (t.b k) with x := { (t.b k).x with ws := [] } } := by rw [e]; exact Tw.set_same _ _ _
        rw [hs] at h1 ⊢; exact ⟨h1, rfl⟩
      · have hs : (gat1 n t k).b k = { (t.b k) with x := { (t.b k).x with term := t.T + 1, role := 4, ticks := 0, lead := k, ws := [] } } := by rw [e]; exact Tw.set_same _ _ _
        rw [hs] at h1; simp at h1
      · have hs : (gat1 n t k).b k = { (t.b k) with x := { (t.b k).x with term := t.T, role := 0, ticks := 0, lead := -1, ws := [] } } := by rw [e]; exact Tw.set_same _ _ _
        rw [hs] at h1; simp at h1
    · rw [gat1_b (Ne.symm ek)] at h1 ⊢; exact ⟨h1, rfl⟩
  rw [hsame.2]
  rcases hi k hk hU hkm hsame.1 with ⟨a, b | b⟩ | b
  · exact .inl ⟨a, .inl (hkeep _ b)⟩
  · exact .inl ⟨a, .inr (hkeep _ b)⟩
  · exact .inr b
theorem NA.move (hi : NA n U m old t []) : NA n U m old { t with l := [] } t.l := fun k hk hU hkm h1 => by
  rcases hi k hk hU hkm h1 with ⟨a, b⟩ | b
  · exact .inl ⟨a, b.imp pend_move.2 pend_move.2⟩
  · exact .inr b
theorem N3.put (hm : Mx n U m) (hT : t.T ≤ 1000000) (h : G n U t (w :: cur)) (hi : N3 n U m t (w :: cur)) : N3 n U m (put1 n U t w) cur := by
  have hv := h.w w (pend_cons.2 (.inl rfl))
  rcases put_cases h with ⟨e, hno⟩ | ⟨k0, hk0, hU0, hw, e⟩ <;> rw [e]
  · exact hi
  intro k hk hU hkm
  by_cases ek : k = k0
  · subst ek
    rw [Tw.set_same]
    have h3 := hi k hk hU hkm
    have := hm.le k hk hU
    have := hm.lt
    obtain ⟨f, hf, hfk, hUf, hh⟩ := (h.g k hk0).take_cases (by omega) hk0 hv hw
    rcases hh with ⟨hw', hlt, ⟨h0, e⟩ | ⟨h0, hl, e⟩ | ⟨h0, hl, e⟩⟩ | ⟨hw', hlt, ⟨h0, e⟩ | ⟨h0, e⟩⟩ | ⟨mm, hw', hm1, hm2, ⟨h0, e⟩ | ⟨h0, e⟩⟩ <;> rw [e]
    · exact h3
    · simp
    · omega
    · simp
    · exact h3
    · simp
    · exact h3
  · rw [Tw.set_ne _ _ ek]; exact hi k hk hU hkm
theorem N3.gat {k0 : Nat} (hk0 : k0 < n) (hU0 : U k0 = true) (hT : t.T ≤ 1000000) (h : G n U t cur) (hi : N3 n U m t cur) : N3 n U m (gat1 n t k0) cur := by
  intro k hk hU hkm
  by_cases ek : k = k0
  · subst ek; exact (gat_self h hT hk0).2
  · rw [gat1_b (Ne.symm ek)]; exact hi k hk hU hkm
/-- At a round's start. -/
theorem NA.start (hm : Mx n U m) (h : G n U t []) (r : Rs n t) (hT : t.T ≤ 1000000) : NA n U m (fun k => (t.b k).x.role = 1 ∧ (t.b k).x.ticks = 0) (tickU n U t) [] := by
  intro k hk hU hkm h1
  rw [tickU_b hk hU] at h1 ⊢
  have hle := hm.le k hk hU
  have hlt := hm.lt
  have hmem : elW k m ∈ els n k := els_mem.2 ⟨m, by omega, hlt, rfl⟩
  have hpend : ∀ y, y ∈ (((t.b k).over t.T).tick n).x.ws → pend n U (tickU n U t) [] y := fun y hy => .inr (.inr ⟨k, hk, hU, by rw [tickU_b hk hU]; exact hy⟩)
  obtain ⟨-, -, ⟨r, ht, h, e⟩ | ⟨r, ht, h, e⟩ | ⟨l, hl, ⟨r, h, e⟩ | ⟨hl1, hr, e⟩ | ⟨hl1, hr, e⟩ | ⟨hl1, r, h, e⟩ | ⟨hl1, r, h, e⟩ | ⟨r, h, e⟩ | ⟨r, h, e⟩ | ⟨r, h, e⟩⟩⟩ := ot_cases (h.g k hk) hk hT h.T0 (r.r k hk) (r.w k hk)
  all_goals rw [e] at h1
  all_goals simp only at h1
  · omega
  · omega
  · omega
  · have hp := hpend (elW k m) (by rw [e]; exact hmem)
    rw [e]
    exact .inl ⟨rfl, .inl hp⟩
  · omega
  · have hp := hpend (elW k m) (by rw [e]; exact hmem)
    rw [e]
    exact .inl ⟨rfl, .inl hp⟩
  · omega
  · omega
  · rw [e]; exact .inr ⟨rfl, r, h⟩
  · omega
/-- None but the greatest asks, or claims. -/
def Fresh (n : Nat) (U : Nat → Bool) (m : Nat) (t : Tw) : Prop := ∀ k, k < n → U k = true → k ≠ m → (t.b k).x.role ≠ 1
theorem N3.start (hm : Mx n U m) (h : G n U t []) (r : Rs n t) (hT : t.T ≤ 1000000) (hf : Fresh n U m t) : N3 n U m (tickU n U t) [] := by
  intro k hk hU hkm h1
  rw [tickU_b hk hU] at h1
  have hle := hm.le k hk hU
  have hlt := hm.lt
  have hne := hf k hk hU hkm
  have h3 := r.r k hk
  obtain ⟨-, -, ⟨r, ht, h, e⟩ | ⟨r, ht, h, e⟩ | ⟨l, hl, ⟨r, h, e⟩ | ⟨hl1, hr, e⟩ | ⟨hl1, hr, e⟩ | ⟨hl1, r, h, e⟩ | ⟨hl1, r, h, e⟩ | ⟨r, h, e⟩ | ⟨r, h, e⟩ | ⟨r, h, e⟩⟩⟩ := ot_cases (h.g k hk) hk hT h.T0 (r.r k hk) (r.w k hk)
  all_goals rw [e] at h1
  all_goals simp only at h1
  all_goals omega
/-- What a round leaves of those who ask. -/
theorem round_na (hm : Mx n U m) (h : G n U t []) (r : Rs n t) (hn : n ≤ 5) (hT : t.T ≤ 900000) : ∀ k, k < n → U k = true → k ≠ m → ((round n U t).b k).x.role = 1 → ((round n U t).b k).x.ticks = 1 ∧ (t.b k).x.role = 1 ∧ (t.b k).x.ticks = 0 := by
  have h1 := h.tickU r (by omega)
  have hT1 : (tickU n U t).T = t.T := rfl
  obtain ⟨a, ia, b, c⟩ := gath_ind (Inv := NA n U m (fun k => (t.b k).x.role = 1 ∧ (t.b k).x.ticks = 0)) (fun t k hk hU hT h hi => hi.gat hk hU hT h) h1 (NA.start hm h r (by omega)) (by rw [hT1]; omega)
  obtain ⟨d, id_, e, f⟩ := dlv_ind (Inv := NA n U m (fun k => (t.b k).x.role = 1 ∧ (t.b k).x.ticks = 0)) (fun t w cur hT h hi => hi.put hm hT h) (fun t k hk hU hT h hi => hi.gat hk hU hT h) (fun t hi => hi.move) 20 (gath n U (tickU n U t)) (by omega) a ia
  obtain ⟨-, rr, -⟩ := round_base h r hn hT
  intro k hk hU hkm h1
  have hb : Rb n (round n U t) := ⟨rr.w, rr.r⟩
  rcases id_ k hk hU hkm h1 with ⟨-, b | b⟩ | b
  · exact absurd b (pend_rest hb rr.l)
  · exact absurd b (pend_rest hb rr.l)
  · exact b
theorem round_fresh (hm : Mx n U m) (h : G n U t []) (r : Rs n t) (hn : n ≤ 5) (hT : t.T ≤ 900000) (hf : Fresh n U m t) : Fresh n U m (round n U t) := fun k hk hU hkm h1 =>
  hf k hk hU hkm (round_na hm h r hn hT k hk hU hkm h1).2.1
theorem round2_fresh (hm : Mx n U m) (h : G n U t []) (r : Rs n t) (hn : n ≤ 5) (hT : t.T ≤ 800000) : Fresh n U m (round n U (round n U t)) := fun k hk hU hkm h1 => by
  obtain ⟨g1, r1, -, t1⟩ := round_base h r hn (by omega)
  obtain ⟨-, a, b⟩ := round_na hm g1 r1 hn (by omega) k hk hU hkm h1
  obtain ⟨c, -⟩ := round_na hm h r hn (by omega) k hk hU hkm a
  omega
end
end Go.Proofs.Ytccmnphjiebiaaa
