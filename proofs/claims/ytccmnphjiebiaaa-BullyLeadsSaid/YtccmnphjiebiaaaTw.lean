/- A town of nodes: words are given out, all is gathered, again and again. Plain law. Condition: a good town (G). -/
import Derived.Test.YtccmnphjiebiaaaTn
namespace Go.Proofs.Ytccmnphjiebiaaa
set_option linter.unusedVariables false
set_option linter.unusedSimpArgs false
structure Tw where
  b : Nat → PN
  l : List Wd
  T : Int
def Tw.set (t : Tw) (k : Nat) (s : PN) : Tw := { t with b := fun j => if j = k then s else t.b j }
theorem Tw.set_same (t : Tw) (k : Nat) (s : PN) : (t.set k s).b k = s := by simp [Tw.set]
theorem Tw.set_ne (t : Tw) {j k : Nat} (s : PN) (h : j ≠ k) : (t.set k s).b j = t.b j := by simp [Tw.set, h]
/-- A word comes, if whom it is for is up. -/
def put1 (n : Nat) (U : Nat → Bool) (t : Tw) (w : Wd) : Tw := if 0 ≤ w.t ∧ w.t < n ∧ U w.t.toNat = true then t.set w.t.toNat ((t.b w.t.toNat).take w) else t
def puts (n : Nat) (U : Nat → Bool) (t : Tw) (l : List Wd) : Tw := l.foldl (put1 n U) t
/-- One node's claim, and its words. -/
def gat1 (n : Nat) (t : Tw) (k : Nat) : Tw :=
  if (t.b k).x.role = 3 then { (t.set k ((t.b k).claims n t.T).out) with l := t.l ++ ((t.b k).claims n t.T).x.ws, T := claimT t.T (t.b k) }
  else { (t.set k (t.b k).out) with l := t.l ++ (t.b k).x.ws }
def gathN (n : Nat) (U : Nat → Bool) (t : Tw) : Nat → Tw
  | 0 => t
  | j + 1 => if U j = true then gat1 n (gathN n U t j) j else gathN n U t j
def gath (n : Nat) (U : Nat → Bool) (t : Tw) : Tw := gathN n U t n
def dlv1 (n : Nat) (U : Nat → Bool) (t : Tw) : Tw := gath n U (puts n U { t with l := [] } t.l)
def dlv (n : Nat) (U : Nat → Bool) : Nat → Tw → Tw
  | 0, t => t
  | f + 1, t => if t.l = [] then t else dlv n U f (dlv1 n U t)
/-- What is on its way. -/
def pend (n : Nat) (U : Nat → Bool) (t : Tw) (cur : List Wd) (w : Wd) : Prop := w ∈ cur ∨ w ∈ t.l ∨ ∃ k, k < n ∧ U k = true ∧ w ∈ (t.b k).x.ws
structure G (n : Nat) (U : Nat → Bool) (t : Tw) (cur : List Wd) : Prop where
  g : ∀ k, k < n → Gn n k t.T (t.b k)
  u : ∀ j k, j < n → k < n → (t.b j).x.role = 4 → (t.b k).x.role = 4 → (t.b j).x.term = (t.b k).x.term → j = k
  w : ∀ y, pend n U t cur y → Vw n U t.T y
  f : ∀ k, k < n → ∀ y ∈ (t.b k).x.ws, U k = true ∧ y.f = k
  T0 : 0 ≤ t.T
section
variable {n k : Nat} {U : Nat → Bool} {t : Tw} {w y : Wd} {cur : List Wd} {s' : PN} {nw : List Wd}
theorem pend_cons : pend n U t (w :: cur) y ↔ y = w ∨ pend n U t cur y := by
  unfold pend
  rw [List.mem_cons, or_assoc]
theorem pend_move : pend n U { t with l := [] } t.l y ↔ pend n U t [] y := by
  unfold pend
  simp
theorem pend_set (hk : k < n) (hU : U k = true) (hws : s'.x.ws = (t.b k).x.ws ++ nw) : pend n U (t.set k s') cur y ↔ pend n U t cur y ∨ y ∈ nw := by
  unfold pend
  constructor
  · rintro (h | h | ⟨j, h1, h2, h3⟩)
    · exact .inl (.inl h)
    · exact .inl (.inr (.inl h))
    · by_cases e : j = k
      · subst e
        rw [Tw.set_same, hws] at h3
        rcases List.mem_append.1 h3 with h3 | h3
        · exact .inl (.inr (.inr ⟨j, h1, h2, h3⟩))
        · exact .inr h3
      · rw [Tw.set_ne _ _ e] at h3
        exact .inl (.inr (.inr ⟨j, h1, h2, h3⟩))
  · rintro ((h | h | ⟨j, h1, h2, h3⟩) | h)
    · exact .inl h
    · exact .inr (.inl h)
    · refine .inr (.inr ⟨j, h1, h2, ?_⟩)
      by_cases e : j = k
      · subst e; rw [Tw.set_same, hws]; exact List.mem_append_left _ h3
      · rw [Tw.set_ne _ _ e]; exact h3
    · refine .inr (.inr ⟨k, hk, hU, ?_⟩)
      rw [Tw.set_same, hws]; exact List.mem_append_right _ h
theorem pend_flush {nl : List Wd} {T : Int} (hk : k < n) (hU : U k = true) (hws : s'.x.ws = []) : pend n U { (t.set k s') with l := t.l ++ ((t.b k).x.ws ++ nl), T := T } cur y ↔ pend n U t cur y ∨ y ∈ nl := by
  unfold pend
  simp only [List.mem_append]
  constructor
  · rintro (h | (h | h | h) | ⟨j, h1, h2, h3⟩)
    · exact .inl (.inl h)
    · exact .inl (.inr (.inl h))
    · exact .inl (.inr (.inr ⟨k, hk, hU, h⟩))
    · exact .inr h
    · by_cases e : j = k
      · subst e
        rw [show ({ (t.set j s') with l := t.l ++ ((t.b j).x.ws ++ nl), T := T } : Tw).b j = s' from Tw.set_same _ _ _, hws] at h3
        cases h3
      · rw [show ({ (t.set k s') with l := t.l ++ ((t.b k).x.ws ++ nl), T := T } : Tw).b j = t.b j from Tw.set_ne _ _ e] at h3
        exact .inl (.inr (.inr ⟨j, h1, h2, h3⟩))
  · rintro ((h | h | ⟨j, h1, h2, h3⟩) | h)
    · exact .inl h
    · exact .inr (.inl (.inl h))
    · by_cases e : j = k
      · subst e; exact .inr (.inl (.inr (.inl h3)))
      · refine .inr (.inr ⟨j, h1, h2, ?_⟩)
        rw [show ({ (t.set k s') with l := t.l ++ ((t.b k).x.ws ++ nl), T := T } : Tw).b j = t.b j from Tw.set_ne _ _ e]
        exact h3
    · exact .inr (.inl (.inr (.inr h)))
theorem put_cases (h : G n U t (w :: cur)) : (put1 n U t w = t ∧ ∀ k : Nat, w.t = k → k < n → U k = true → False) ∨ ∃ k : Nat, k < n ∧ U k = true ∧ w.t = k ∧ put1 n U t w = t.set k ((t.b k).take w) := by
  obtain ⟨f, k, h1, h2, h3, h4, h5, h6⟩ := h.w w (pend_cons.2 (.inl rfl))
  unfold put1
  have e : w.t.toNat = k := by omega
  by_cases hc : U k = true
  · right
    refine ⟨k, h4, hc, h2, ?_⟩
    rw [if_pos ⟨by omega, by omega, by rw [e]; exact hc⟩, e]
  · left
    refine ⟨?_, fun k' h7 _ h8 => ?_⟩
    · rw [if_neg]; rw [e]; exact fun hh => hc hh.2.2
    · have : k' = k := by omega
      subst this; exact hc h8
theorem G.tail (h : G n U t (w :: cur)) : G n U t cur := ⟨h.g, h.u, fun y hy => h.w y (pend_cons.2 (.inr hy)), h.f, h.T0⟩
theorem G.put (h : G n U t (w :: cur)) (hT : t.T ≤ 1000000) : G n U (put1 n U t w) cur := by
  rcases put_cases h with ⟨e, -⟩ | ⟨k, hk, hU, hw, e⟩ <;> rw [e]
  · exact h.tail
  have hv := h.w w (pend_cons.2 (.inl rfl))
  have hg := h.g k hk
  obtain ⟨nw, hnw, -, hnew⟩ := hg.take_new (by omega) hk hv hw
  have hrole : ((t.b k).take w).x.role = 4 → (t.b k).x.role = 4 ∧ ((t.b k).take w).x.term = (t.b k).x.term := by
    intro h4
    obtain ⟨f, -, -, -, hh⟩ := hg.take_cases (by omega) hk hv hw
    rcases hh with ⟨-, -, ⟨h0, e⟩ | ⟨h0, -, e⟩ | ⟨h0, -, e⟩⟩ | ⟨-, -, ⟨h0, e⟩ | ⟨h0, e⟩⟩ | ⟨m, -, hm1, hm2, ⟨h0, e⟩ | ⟨h0, e⟩⟩ <;> rw [e] at h4 ⊢ <;> simp at h4 ⊢ <;> exact h4
  have hnv : ∀ y ∈ nw, Vw n U t.T y ∧ y.f = k := by
    intro y hy
    rcases hnew y hy with ⟨f, hw', h1, h2, rfl⟩ | ⟨f, t', hw', h1, h2, h3, rfl⟩
    · exact ⟨⟨k, f, rfl, rfl, hk, h2, hU, .inr (.inl ⟨rfl, h1, rfl⟩)⟩, rfl⟩
    · exact ⟨⟨k, t', rfl, rfl, hk, h3, hU, .inl ⟨rfl, h2, rfl⟩⟩, rfl⟩
  refine ⟨fun j hj => ?_, fun i j hi hj hri hrj he => ?_, fun y hy => ?_, fun j hj y hy => ?_, h.T0⟩
  · show Gn n j t.T _
    by_cases e : j = k
    · subst e; rw [Tw.set_same]; exact hg.take (by omega) hk hv hw
    · rw [Tw.set_ne _ _ e]; exact h.g j hj
  · by_cases ei : i = k
    · subst ei
      rw [Tw.set_same] at hri he
      obtain ⟨a1, a2⟩ := hrole hri
      by_cases ej : j = i
      · exact ej.symm
      · rw [Tw.set_ne _ _ ej] at hrj he
        exact h.u i j hi hj a1 hrj (by rw [← a2]; exact he)
    · rw [Tw.set_ne _ _ ei] at hri he
      by_cases ej : j = k
      · subst ej
        rw [Tw.set_same] at hrj he
        obtain ⟨a1, a2⟩ := hrole hrj
        exact h.u i j hi hj hri a1 (by rw [← a2]; exact he)
      · rw [Tw.set_ne _ _ ej] at hrj he
        exact h.u i j hi hj hri hrj he
  · rcases (pend_set hk hU hnw).1 hy with hy | hy
    · exact h.w y (pend_cons.2 (.inr hy))
    · exact (hnv y hy).1
  · by_cases e : j = k
    · subst e
      rw [Tw.set_same, hnw] at hy
      rcases List.mem_append.1 hy with hy | hy
      · exact h.f j hj y hy
      · exact ⟨hU, (hnv y hy).2⟩
    · rw [Tw.set_ne _ _ e] at hy; exact h.f j hj y hy
/-- What gathering at one node does. -/
theorem gat_cases (h : G n U t cur) (hT : t.T ≤ 1000000) (hk : k < n) :
    ((t.b k).x.role ≠ 3 ∧ gat1 n t k = { (t.set k { (t.b k) with x := { (t.b k).x with ws := [] } }) with l := t.l ++ ((t.b k).x.ws ++ []), T := t.T }) ∨
    ((t.b k).x.role = 3 ∧ (t.b k).x.term = t.T ∧ gat1 n t k = { (t.set k { (t.b k) with x := { (t.b k).x with term := t.T + 1, role := 4, ticks := 0, lead := k, ws := [] } }) with l := t.l ++ ((t.b k).x.ws ++ leads k (t.T + 1) n), T := t.T + 1 }) ∨
    ((t.b k).x.role = 3 ∧ (t.b k).x.term < t.T ∧ gat1 n t k = { (t.set k { (t.b k) with x := { (t.b k).x with term := t.T, role := 0, ticks := 0, lead := -1, ws := [] } }) with l := t.l ++ ((t.b k).x.ws ++ []), T := t.T }) := by
  unfold gat1
  by_cases h3 : (t.b k).x.role = 3
  · right
    rw [if_pos h3]
    rcases (h.g k hk).claims_cases (by omega) h3 with ⟨a, b, c⟩ | ⟨a, b, c⟩
    · left; refine ⟨h3, a, ?_⟩
      rw [b, c]
      simp [PN.out, Nd.outed]
    · right; refine ⟨h3, a, ?_⟩
      rw [b, c]
      simp [PN.out, Nd.outed]
  · left
    rw [if_neg h3]
    refine ⟨h3, ?_⟩
    simp [PN.out, Nd.outed, Tw.set]
theorem gat_T (h : G n U t cur) (hT : t.T ≤ 1000000) (hk : k < n) : t.T ≤ (gat1 n t k).T ∧ (gat1 n t k).T ≤ t.T + 1 := by
  rcases gat_cases h hT hk with ⟨-, e⟩ | ⟨-, -, e⟩ | ⟨-, -, e⟩ <;> rw [e] <;> simp <;> omega
theorem gat_b (h : G n U t cur) (hT : t.T ≤ 1000000) (hk : k < n) {j : Nat} (hj : j ≠ k) : (gat1 n t k).b j = t.b j := by
  rcases gat_cases h hT hk with ⟨-, e⟩ | ⟨-, -, e⟩ | ⟨-, -, e⟩ <;> rw [e] <;> exact Tw.set_ne _ _ hj
theorem gat_self (h : G n U t cur) (hT : t.T ≤ 1000000) (hk : k < n) : ((gat1 n t k).b k).x.ws = [] ∧ ((gat1 n t k).b k).x.role ≠ 3 := by
  rcases gat_cases h hT hk with ⟨h0, e⟩ | ⟨-, -, e⟩ | ⟨-, -, e⟩ <;> rw [e] <;> simp [Tw.set]
  exact h0
theorem G.gat (h : G n U t cur) (hT : t.T ≤ 1000000) (hk : k < n) (hU : U k = true) : G n U (gat1 n t k) cur := by
  have hTT := gat_T h hT hk
  have hg := h.g k hk
  have h0 := h.T0
  have hlds : ∀ y ∈ leads k (t.T + 1) n, Vw n U (t.T + 1) y := by
    intro y hy
    obtain ⟨j, h1, h2, rfl⟩ := lds_mem.1 hy
    exact ⟨k, j, rfl, rfl, hk, h1, hU, .inr (.inr ⟨rfl, fun e => h2 e.symm, by show 1 ≤ t.T + 1; omega, Int.le_refl _⟩)⟩
  have hgn : ∀ j, j < n → j ≠ k → Gn n j (gat1 n t k).T ((gat1 n t k).b j) := fun j hj hne => by
    rw [gat_b h hT hk hne]; exact (h.g j hj).more hTT.1
  rcases gat_cases h hT hk with ⟨h3, e⟩ | ⟨h3, ht, e⟩ | ⟨h3, ht, e⟩
  · have hs : (gat1 n t k).b k = { (t.b k) with x := { (t.b k).x with ws := [] } } := by rw [e]; exact Tw.set_same _ _ _
    refine ⟨fun j hj => ?_, fun i j hi hj hri hrj he => ?_, fun y hy => ?_, fun j hj y hy => ?_, by omega⟩
    · by_cases ej : j = k
      · subst ej; rw [hs]; exact (hg.out).more hTT.1
      · exact hgn j hj ej
    · have key : ∀ j, ((gat1 n t k).b j).x.role = (t.b j).x.role ∧ ((gat1 n t k).b j).x.term = (t.b j).x.term := fun j => by
        by_cases ej : j = k
        · subst ej; rw [hs]; exact ⟨rfl, rfl⟩
        · rw [gat_b h hT hk ej]; exact ⟨rfl, rfl⟩
      rw [(key i).1] at hri
      rw [(key j).1] at hrj
      rw [(key i).2, (key j).2] at he
      exact h.u i j hi hj hri hrj he
    · rw [e] at hy
      rcases (pend_flush hk hU rfl).1 hy with hy | hy
      · exact (h.w y hy).more hTT.1
      · cases hy
    · by_cases ej : j = k
      · subst ej; rw [hs] at hy; cases hy
      · rw [gat_b h hT hk ej] at hy; exact h.f j hj y hy
  · have hs : (gat1 n t k).b k = { (t.b k) with x := { (t.b k).x with term := t.T + 1, role := 4, ticks := 0, lead := k, ws := [] } } := by rw [e]; exact Tw.set_same _ _ _
    have hT1 : (gat1 n t k).T = t.T + 1 := by rw [e]
    refine ⟨fun j hj => ?_, fun i j hi hj hri hrj he => ?_, fun y hy => ?_, fun j hj y hy => ?_, by omega⟩
    · by_cases ej : j = k
      · subst ej; rw [hs, hT1]
        exact ⟨hg.xn, hg.self, hg.w, hg.ev, hg.lm, hg.lf, hg.xl, hg.xb, by show 0 ≤ t.T + 1; omega, Int.le_refl _, by simp, by simp, by simp, fun _ => by show 1 ≤ t.T + 1; omega, fun _ => rfl, by simp⟩
      · exact hgn j hj ej
    · by_cases ei : i = k
      · by_cases ej : j = k
        · omega
        · rw [ei, hs, gat_b h hT hk ej] at he
          have := (h.g j hj).t1
          simp only at he
          omega
      · by_cases ej : j = k
        · rw [ej, hs, gat_b h hT hk ei] at he
          have := (h.g i hi).t1
          simp only at he
          omega
        · rw [gat_b h hT hk ei] at hri he
          rw [gat_b h hT hk ej] at hrj he
          exact h.u i j hi hj hri hrj he
    · rw [hT1]
      rw [e] at hy
      rcases (pend_flush hk hU rfl).1 hy with hy | hy
      · exact (h.w y hy).more (by omega)
      · exact hlds y hy
    · by_cases ej : j = k
      · subst ej; rw [hs] at hy; cases hy
      · rw [gat_b h hT hk ej] at hy; exact h.f j hj y hy
  · have hs : (gat1 n t k).b k = { (t.b k) with x := { (t.b k).x with term := t.T, role := 0, ticks := 0, lead := -1, ws := [] } } := by rw [e]; exact Tw.set_same _ _ _
    have hT1 : (gat1 n t k).T = t.T := by rw [e]
    refine ⟨fun j hj => ?_, fun i j hi hj hri hrj he => ?_, fun y hy => ?_, fun j hj y hy => ?_, by omega⟩
    · by_cases ej : j = k
      · subst ej; rw [hs, hT1]
        exact ⟨hg.xn, hg.self, hg.w, hg.ev, hg.lm, hg.lf, hg.xl, hg.xb, h0, Int.le_refl _, by simp, by simp, by simp, by simp, by simp, fun _ => by show (-1 : Int) ≠ j; omega⟩
      · exact hgn j hj ej
    · by_cases ei : i = k
      · rw [ei, hs] at hri; simp at hri
      · by_cases ej : j = k
        · rw [ej, hs] at hrj; simp at hrj
        · rw [gat_b h hT hk ei] at hri he
          rw [gat_b h hT hk ej] at hrj he
          exact h.u i j hi hj hri hrj he
    · rw [hT1]
      rw [e] at hy
      rcases (pend_flush hk hU rfl).1 hy with hy | hy
      · exact h.w y hy
      · cases hy
    · by_cases ej : j = k
      · subst ej; rw [hs] at hy; cases hy
      · rw [gat_b h hT hk ej] at hy; exact h.f j hj y hy
theorem put_T (t : Tw) (w : Wd) : (put1 n U t w).T = t.T ∧ (put1 n U t w).l = t.l := by unfold put1; split <;> exact ⟨rfl, rfl⟩
theorem G.move (h : G n U t []) : G n U { t with l := [] } t.l := ⟨h.g, h.u, fun y hy => h.w y (pend_move.1 hy), h.f, h.T0⟩
end
section
variable {n : Nat} {U : Nat → Bool} {Inv : Tw → List Wd → Prop}
/-- What each word keeps, all words keep. -/
theorem puts_ind (hp : ∀ t w cur, t.T ≤ 1000000 → G n U t (w :: cur) → Inv t (w :: cur) → Inv (put1 n U t w) cur) : ∀ (cur : List Wd) (t : Tw), t.T ≤ 1000000 → G n U t cur → Inv t cur → G n U (puts n U t cur) [] ∧ Inv (puts n U t cur) [] ∧ (puts n U t cur).T = t.T
  | [], t, hT, h, hi => ⟨h, hi, rfl⟩
  | w :: cur, t, hT, h, hi => by
    obtain ⟨a, b, c⟩ := puts_ind hp cur (put1 n U t w) (by rw [(put_T t w).1]; exact hT) (h.put hT) (hp t w cur hT h hi)
    exact ⟨a, b, c.trans (put_T t w).1⟩
theorem gathN_ind (hg : ∀ t k, k < n → U k = true → t.T ≤ 1000000 → G n U t [] → Inv t [] → Inv (gat1 n t k) []) {t : Tw} (h : G n U t []) (hi : Inv t []) : ∀ j, j ≤ n → t.T + j ≤ 1000000 → G n U (gathN n U t j) [] ∧ Inv (gathN n U t j) [] ∧ t.T ≤ (gathN n U t j).T ∧ (gathN n U t j).T ≤ t.T + j
  | 0, _, _ => ⟨h, hi, Int.le_refl _, by simp [gathN]⟩
  | j + 1, hj, hT => by
    obtain ⟨a, b, c, d⟩ := gathN_ind hg h hi j (by omega) (by omega)
    unfold gathN
    split
    next hu =>
      have hT' : (gathN n U t j).T ≤ 1000000 := by omega
      have := gat_T a hT' (k := j) (by omega)
      exact ⟨a.gat hT' (by omega) hu, hg _ j (by omega) hu hT' a b, by omega, by omega⟩
    · exact ⟨a, b, c, by omega⟩
theorem gath_ind (hg : ∀ t k, k < n → U k = true → t.T ≤ 1000000 → G n U t [] → Inv t [] → Inv (gat1 n t k) []) {t : Tw} (h : G n U t []) (hi : Inv t []) (hT : t.T + n ≤ 1000000) : G n U (gath n U t) [] ∧ Inv (gath n U t) [] ∧ t.T ≤ (gath n U t).T ∧ (gath n U t).T ≤ t.T + n :=
  gathN_ind hg h hi n (Nat.le_refl _) hT
theorem dlv1_ind (hp : ∀ t w cur, t.T ≤ 1000000 → G n U t (w :: cur) → Inv t (w :: cur) → Inv (put1 n U t w) cur) (hg : ∀ t k, k < n → U k = true → t.T ≤ 1000000 → G n U t [] → Inv t [] → Inv (gat1 n t k) [])
    (hm : ∀ t, Inv t [] → Inv { t with l := [] } t.l) {t : Tw} (h : G n U t []) (hi : Inv t []) (hT : t.T + n ≤ 1000000) : G n U (dlv1 n U t) [] ∧ Inv (dlv1 n U t) [] ∧ t.T ≤ (dlv1 n U t).T ∧ (dlv1 n U t).T ≤ t.T + n := by
  obtain ⟨a, b, c⟩ := puts_ind (Inv := Inv) hp t.l { t with l := [] } (by show t.T ≤ _; omega) h.move (hm t hi)
  have c' : (puts n U { t with l := [] } t.l).T = t.T := c
  obtain ⟨a2, b2, c2, d2⟩ := gath_ind hg a b (by rw [c']; exact hT)
  exact ⟨a2, b2, by unfold dlv1; omega, by unfold dlv1; omega⟩
theorem dlv_ind (hp : ∀ t w cur, t.T ≤ 1000000 → G n U t (w :: cur) → Inv t (w :: cur) → Inv (put1 n U t w) cur) (hg : ∀ t k, k < n → U k = true → t.T ≤ 1000000 → G n U t [] → Inv t [] → Inv (gat1 n t k) [])
    (hm : ∀ t, Inv t [] → Inv { t with l := [] } t.l) : ∀ (f : Nat) (t : Tw), t.T + f * n ≤ 1000000 → G n U t [] → Inv t [] → G n U (dlv n U f t) [] ∧ Inv (dlv n U f t) [] ∧ t.T ≤ (dlv n U f t).T ∧ (dlv n U f t).T ≤ t.T + f * n
  | 0, t, _, h, hi => ⟨h, hi, Int.le_refl _, by simp [dlv]⟩
  | f + 1, t, hT, h, hi => by
    unfold dlv
    have hmul : ((f + 1 : Nat) : Int) * n = f * n + n := by rw [Int.natCast_add, Int.add_mul]; simp
    have hpos : (0 : Int) ≤ (f : Int) * n := Int.mul_nonneg (by omega) (by omega)
    rw [hmul] at hT ⊢
    split
    · exact ⟨h, hi, Int.le_refl _, by omega⟩
    · obtain ⟨a, b, c, d⟩ := dlv1_ind hp hg hm h hi (by omega)
      obtain ⟨a2, b2, c2, d2⟩ := dlv_ind hp hg hm f (dlv1 n U t) (by omega) a b
      exact ⟨a2, b2, by omega, by omega⟩
end
end Go.Proofs.Ytccmnphjiebiaaa
