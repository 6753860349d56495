/- The plain laws of ways, the second part: brackets, never behind, along a way, an order. No Go here. -/
import Derived.Test.YtfmnbkcjibhloaaPure2
namespace Go.Proofs.Ytfmnbkcjibhloaa
set_option linter.unusedVariables false
set_option linter.unusedSimpArgs false
theorem pa_inj {x y : Pa} (hx : Good x) (hy : Good y) (hf : x.f = y.f) (hk : x.k = y.k) (hu : x.u = y.u) (h : apT x tm0 = apT y tm0) : x = y := by
  have x1 := hx.k0; have x2 := hx.u0; have x3 := hx.u3
  have hL : ∀ i : Int, 0 ≤ i → i ≤ 2 → apL x tm0 i = apL y tm0 i := fun i h0 h2 => by rw [← ap_L _ _ i h0 h2, ← ap_L _ _ i h0 h2, h]
  have z : ∀ i : Int, tm0.L i = 0 := fun i => by unfold Tm.L tm0; split <;> (try split) <;> (try split) <;> rfl
  refine pa_ext hf hk hu (fun i h0 h3 => ?_) (fun i h0 h2 => ?_)
  · by_cases hi0 : i = 0
    · subst hi0
      have := congrArg Tm.e h
      simp [apT, tm0] at this
      simpa [Pa.A] using this
    by_cases hi : i ≤ x.k
    · have := hL (i - 1) (by omega) (by omega)
      unfold apL at this
      rw [if_pos (by omega), if_pos (by omega), z, show i - 1 + 1 = i by omega] at this
      omega
    · rw [hx.A0 (by omega) h3, hy.A0 (by omega) h3]
  · by_cases hi : i < x.u
    · have := hL (x.k + i) (by omega) (by omega)
      unfold apL at this
      rw [if_neg (show ¬ x.k + i < x.k by omega), if_neg (show ¬ x.k + i < y.k by omega), if_pos (show x.k + i < x.k + x.u by omega), if_pos (show x.k + i < y.k + y.u by omega), show x.k + i - x.k = i by omega, show x.k + i - y.k = i by omega] at this
      exact this
    · rw [hx.L0 (by omega) h2, hy.L0 (by omega) h2]
theorem th_assoc {p q s : Pa} (hp : Good p) (hq : Good q) (hs : Good s) (h1 : p.k + p.u = q.f) (h2 : q.k + q.u = s.f) (o1 : paOver (thP p q) = false) (o2 : paOver (thP q s) = false)
    (o3 : paOver (thP (thP p q) s) = false) (o4 : paOver (thP p (thP q s)) = false) : thP (thP p q) s = thP p (thP q s) := by
  have ha := thP_good hp hq h1 o1
  have hb := thP_good hq hs h2 o2
  have f1 : (thP p q).k + (thP p q).u = s.f := (comp_d hp hq h1).trans h2
  have f2 : p.k + p.u = (thP q s).f := h1
  have a3 := hp.k0; have a4 := hp.kf; have a5 := hp.u0; have a6 := hp.u3
  have b3 := hq.k0; have b4 := hq.kf; have b5 := hq.u0; have b6 := hq.u3
  have c3 := hs.k0; have c4 := hs.kf; have c5 := hs.u0; have c6 := hs.u3
  have ek : (thP (thP p q) s).k = (thP p (thP q s)).k := by
    show thK (thP p q) s = thK p (thP q s)
    unfold thK
    show (if thK p q ≤ s.k then thK p q else s.k) = (if p.k ≤ thK q s then p.k else thK q s)
    unfold thK
    by_cases q1 : p.k ≤ q.k <;> by_cases q2 : q.k ≤ s.k <;> by_cases q3 : p.k ≤ s.k <;> simp [q1, q2, q3] <;> (try split) <;> (try split) <;> omega
  refine pa_inj (thP_good ha hs f1 o3) (thP_good hp hb f2 o4) rfl ek ?_ ?_
  · have e1 := comp_d ha hs f1
    have e2 := comp_d hp hb f2
    have e3 := comp_d hq hs h2
    omega
  · rw [comp_T ha hs f1, comp_T hp hq h1, comp_T hp hb f2, comp_T hq hs h2]
theorem brackets_law (p q s : Pa) (h1 : (thenR p q).2 = 0) (h2 : (thenR q s).2 = 0) (h3 : (thenR (thenR p q).1 s).2 = 0) (h4 : (thenR p (thenR q s).1).2 = 0) :
    (thenR (thenR p q).1 s).1 = (thenR p (thenR q s).1).1 := by
  obtain ⟨hp, hq, f1, o1, e1⟩ := then_inv h1
  obtain ⟨_, hs, f2, o2, e2⟩ := then_inv h2
  rw [e1] at h3 ⊢
  rw [e2] at h4 ⊢
  obtain ⟨_, _, _, o3, e3⟩ := then_inv h3
  obtain ⟨_, _, _, o4, e4⟩ := then_inv h4
  rw [e3, e4]
  exact th_assoc hp hq hs f1 f2 o1 o2 o3 o4
def stayP (d : Int) : Pa := ⟨d, d, 0, 0, 0, 0, 0, 0, 0, 0⟩
theorem stay_good {d : Int} (h0 : 0 ≤ d) (h3 : d ≤ 3) : Good (stayP d) := by
  refine ⟨h0, h3, h0, Int.le_refl _, ?_, ?_, ?_, ?_, ?_, ?_, ?_, ?_, ?_, ?_, ?_, ?_, ?_, ?_, ?_⟩ <;> simp [stayP] <;> omega
theorem stay_A (d i : Int) : (stayP d).A i = 0 := by unfold Pa.A stayP; split <;> (try split) <;> (try split) <;> (try split) <;> rfl
theorem stay_L (d i : Int) : (stayP d).L i = 0 := by unfold Pa.L stayP; split <;> (try split) <;> (try split) <;> rfl
theorem good_over {p : Pa} (h : Good p) : paOver p = false := by
  have := h.g0; have := h.g1; have := h.g2; have := h.g3; have := h.h0; have := h.h1; have := h.h2
  simp only [paOver, decide_eq_false_iff_not]; omega
theorem stay_left {p : Pa} (h : Good p) : thP (stayP p.f) p = p := by
  have h1 := h.k0; have h2 := h.kf; have h3 := h.u0; have h4 := h.u3
  have hk : thK (stayP p.f) p = p.k := by show (if p.f ≤ p.k then p.f else p.k) = p.k; split <;> omega
  have hm : thM (stayP p.f) p = 0 := by show (if p.f ≤ p.k then p.k - p.f else 0) = 0; split <;> omega
  refine pa_ext rfl hk (by show thM (stayP p.f) p + p.u = p.u; omega) (fun i h0 h3 => ?_) (fun i h0 h2 => ?_)
  · rw [th_A _ _ i h0 h3]
    unfold thA
    rw [hk, stay_A]
    split
    · omega
    · rw [h.A0 (by omega) h3]
  · rw [th_L _ _ i h0 h2]
    unfold thL
    rw [hm, if_neg (by omega), show i - 0 = i by omega]
    split
    · rfl
    · rw [h.L0 (by omega) h2]
theorem stay_right {p : Pa} (h : Good p) : thP p (stayP (p.k + p.u)) = p := by
  have h1 := h.k0; have h2 := h.kf; have h3 := h.u0; have h4 := h.u3
  have hk : thK p (stayP (p.k + p.u)) = p.k := by show (if p.k ≤ p.k + p.u then p.k else p.k + p.u) = p.k; split <;> omega
  have hm : thM p (stayP (p.k + p.u)) = p.u := by show (if p.k ≤ p.k + p.u then p.k + p.u - p.k else 0) = p.u; split <;> omega
  refine pa_ext rfl hk (by show thM p (stayP (p.k + p.u)) + 0 = p.u; omega) (fun i h0 h3 => ?_) (fun i h0 h2 => ?_)
  · rw [th_A _ _ i h0 h3]
    unfold thA
    rw [hk, stay_A]
    split
    · omega
    · rw [h.A0 (by omega) h3]
  · rw [th_L _ _ i h0 h2]
    unfold thL
    rw [hm, stay_A]
    split
    · omega
    · rw [stay_L]
      split <;> rw [h.L0 (by omega) h2]
theorem stay_law {p : Pa} (h : chk p = 0) : thenR (stayP p.f) p = (p, 0) ∧ thenR p (stayP (toR p)) = (p, 0) := by
  have g := good_iff.1 h
  have h1 := g.k0; have h2 := g.kf; have h3 := g.u0; have h4 := g.u3
  rw [g.to]
  refine ⟨?_, ?_⟩
  · rw [then_ok (stay_good g.f0 g.f3) g (by show p.f + 0 = p.f; omega) (by rw [stay_left g]; exact good_over g), stay_left g]
  · rw [then_ok g (stay_good (by omega) g.u3) rfl (by rw [stay_right g]; exact good_over g), stay_right g]
theorem tle_iff {a b : Tm} : tleR a b = true ↔ (a.d = b.d ∧ 0 ≤ a.d ∧ a.d ≤ 3 ∧ a.e ≤ b.e ∧ ∀ i : Int, 0 ≤ i → i < a.d → a.L i ≤ b.L i) := by
  unfold tleR
  rw [decide_eq_true_iff]
  constructor
  · rintro ⟨h1, h2, h3, h4, h5, h6, h7⟩
    refine ⟨h1, h2, h3, h4, fun i i0 i1 => ?_⟩
    have : i = 0 ∨ i = 1 ∨ i = 2 := by omega
    rcases this with rfl | rfl | rfl
    · simpa [Tm.L] using h5 i1
    · simpa [Tm.L] using h6 i1
    · simpa [Tm.L] using h7 i1
  · rintro ⟨h1, h2, h3, h4, h5⟩
    refine ⟨h1, h2, h3, h4, fun h => ?_, fun h => ?_, fun h => ?_⟩
    · simpa [Tm.L] using h5 0 (by omega) h
    · simpa [Tm.L] using h5 1 (by omega) h
    · simpa [Tm.L] using h5 2 (by omega) h
theorem TmOk.L {t : Tm} (h : TmOk t) (i : Int) : 0 ≤ t.L i := by
  obtain ⟨⟨h0, _⟩, ⟨h1, _⟩, ⟨h2, _⟩, ⟨h3, _⟩⟩ := h
  unfold Tm.L; split <;> (try split) <;> (try split) <;> omega
theorem PaOk.A {p : Pa} (h : PaOk p) (i : Int) : 0 ≤ p.A i := by
  obtain ⟨⟨h0, _⟩, ⟨h1, _⟩, ⟨h2, _⟩, ⟨h3, _⟩, _⟩ := h
  unfold Pa.A; split <;> (try split) <;> (try split) <;> (try split) <;> omega
theorem least_A {p : Pa} {i : Nat} (h : (i : Int) < p.k) (h3 : i ≤ 2) : leastR p i = p.A (i + 1) := by
  unfold leastR
  rw [if_pos h]
  have : i = 0 ∨ i = 1 ∨ i = 2 := by omega
  rcases this with rfl | rfl | rfl <;> rfl
theorem least_L {p : Pa} {i : Nat} (h : ¬ (i : Int) < p.k) (h0 : 0 ≤ p.k) (h3 : i ≤ 2) : leastR p i = p.L (i - p.k) := by
  unfold leastR
  rw [if_neg h]
  obtain ⟨k, hk⟩ := Int.eq_ofNat_of_zero_le h0
  rw [hk] at h ⊢
  have : ((i : Int) - (k : Int)) = ((i - k : Nat) : Int) := by omega
  rw [this]
  simp only [Int.toNat_natCast]
  have : i - k = 0 ∨ i - k = 1 ∨ i - k = 2 := by omega
  rcases this with e | e | e <;> rw [e] <;> rfl
/-- What LE says, in numbers. -/
theorem le_inv {p q : Pa} (h : leR p q = true) : Good p ∧ Good q ∧ p.f = q.f ∧ p.k + p.u = q.k + q.u ∧ p.k ≤ q.k ∧ p.a0 ≤ q.a0 ∧ ∀ i : Nat, i ≤ 2 → (i : Int) < p.k + p.u → leastR p i ≤ leastR q i := by
  obtain ⟨h1, h2, h3, h4, h5, h6, h7⟩ := leR_iff.1 h
  have gp := good_iff.1 h1
  have gq := good_iff.1 h2
  rw [gp.to, gq.to] at h4
  exact ⟨gp, gq, h3, h4, h5, h6, fun i hi hd => h7 i (List.mem_range.2 (by omega)) (by rw [gp.to]; exact hd)⟩
theorem le_mk {p q : Pa} (gp : Good p) (gq : Good q) (h3 : p.f = q.f) (h4 : p.k + p.u = q.k + q.u) (h5 : p.k ≤ q.k) (h6 : p.a0 ≤ q.a0) (h7 : ∀ i : Nat, i ≤ 2 → (i : Int) < p.k + p.u → leastR p i ≤ leastR q i) : leR p q = true := by
  refine leR_iff.2 ⟨good_iff.2 gp, good_iff.2 gq, h3, by rw [gp.to, gq.to]; exact h4, h5, h6, fun i hi hd => h7 i ?_ (by rw [gp.to] at hd; exact hd)⟩
  have := List.mem_range.1 hi; omega
theorem le_ap {p q : Pa} {t : Tm} (ht : TmOk t) (h : leR p q = true) (i : Int) (h0 : 0 ≤ i) (h2 : i ≤ 2) : apL p t i ≤ apL q t i := by
  obtain ⟨gp, gq, hf, hd, hk, ha, hl⟩ := le_inv h
  obtain ⟨n, rfl⟩ := Int.eq_ofNat_of_zero_le h0
  have k0 := gp.k0
  have k1 := gq.k0
  have k2 := gq.u0
  have t0 := ht.L (n : Int)
  unfold apL
  by_cases c1 : (n : Int) < p.k
  · have := hl n (by omega) (by have := gp.u0; omega)
    rw [least_A c1 (by omega), least_A (by omega) (by omega)] at this
    rw [if_pos c1, if_pos (by omega)]
    omega
  · rw [if_neg c1]
    by_cases c3 : (n : Int) < p.k + p.u
    · have := hl n (by omega) c3
      rw [least_L c1 k0 (by omega)] at this
      rw [if_pos c3]
      by_cases c2 : (n : Int) < q.k
      · rw [least_A c2 (by omega)] at this
        rw [if_pos c2]
        omega
      · rw [least_L c2 k1 (by omega)] at this
        rw [if_neg c2, if_pos (by omega)]
        exact this
    · rw [if_neg c3, if_neg (by omega), if_neg (by omega)]
      exact Int.le_refl _
/-- PathBefore, as numbers. -/
theorem before_law {p q : Pa} {t : Tm} (ht : TmOk t) (h : leR p q = true) (hq : (applyR q t).2 = 0) : (applyR p t).2 = 0 ∧ tleR (applyR p t).1 (applyR q t).1 = true := by
  obtain ⟨_, tc, td, ov, e⟩ := apply_inv hq
  obtain ⟨gp, gq, hf, hd, hk, ha, hl⟩ := le_inv h
  have l0 := le_ap ht h 0 (by omega) (by omega)
  have l1 := le_ap ht h 1 (by omega) (by omega)
  have l2 := le_ap ht h 2 (by omega) (by omega)
  obtain ⟨o1, o2, o3, o4⟩ := apOver_no ov
  have ov' : apOver p t = false := by simp only [apOver, decide_eq_false_iff_not]; omega
  have e' := apply_ok gp tc (by omega) ov'
  rw [e, e']
  refine ⟨rfl, tle_iff.2 ⟨hd, ?_, ?_, ?_, fun i h0 h1 => ?_⟩⟩
  · show 0 ≤ p.k + p.u
    have := gp.k0; have := gp.u0; omega
  · exact gp.u3
  · show t.e + p.a0 ≤ t.e + q.a0
    omega
  · have : i < p.k + p.u := h1
    have := gp.u3
    rw [ap_L _ _ i h0 (by omega), ap_L _ _ i h0 (by omega)]
    exact le_ap ht h i h0 (by omega)
/-- PathAlong, as numbers. -/
theorem along_law {p : Pa} {t u : Tm} (hp : PaOk p) (h1 : (applyR p t).2 = 0) (h2 : (applyR p u).2 = 0) (h : tleR t u = true) : tleR (applyR p t).1 (applyR p u).1 = true := by
  obtain ⟨gp, _, d1, _, e1⟩ := apply_inv h1
  obtain ⟨_, _, d2, _, e2⟩ := apply_inv h2
  obtain ⟨t1, t2, t3, t4, t5⟩ := tle_iff.1 h
  rw [e1, e2]
  refine tle_iff.2 ⟨rfl, ?_, gp.u3, ?_, fun i h0 h1 => ?_⟩
  · show 0 ≤ p.k + p.u
    have := gp.k0; have := gp.u0; omega
  · show t.e + p.a0 ≤ u.e + p.a0
    omega
  · have hi : i < p.k + p.u := h1
    have := gp.u3
    have := gp.kf
    rw [ap_L _ _ i h0 (by omega), ap_L _ _ i h0 (by omega)]
    unfold apL
    split
    · have := t5 i h0 (by omega); omega
    · exact Int.le_refl _
theorem rises_inv {p : Pa} (h : risesR p = true) : Good p ∧ p.k = p.f ∧ p.u = 0 ∧ (p.a0 ≠ 0 ∨ p.a1 ≠ 0 ∨ p.a2 ≠ 0 ∨ p.a3 ≠ 0) := by
  simp only [risesR, Bool.and_eq_true, decide_eq_true_eq, Bool.or_eq_true, Bool.not_eq_true', beq_eq_false_iff_ne] at h
  obtain ⟨h1, h2, h3, h4⟩ := h
  exact ⟨good_iff.1 h1, h2, h3, h4⟩
theorem rise_law {p : Pa} {t : Tm} (hp : PaOk p) (h1 : (applyR p t).2 = 0) (h : risesR p = true) : tleR t (applyR p t).1 = true ∧ tleR (applyR p t).1 t = false := by
  obtain ⟨gp, tc, d1, _, e1⟩ := apply_inv h1
  obtain ⟨_, hk, hu, hne⟩ := rises_inv h
  have hA := fun i => hp.A i
  have g0 := gp.f0
  have g3 := gp.f3
  obtain ⟨⟨z0, _⟩, ⟨z1, _⟩, ⟨z2, _⟩, ⟨z3, _⟩, _⟩ := hp
  rw [e1]
  refine ⟨tle_iff.2 ⟨?_, ?_, ?_, ?_, fun i h0 h1 => ?_⟩, ?_⟩
  · show t.d = p.k + p.u
    omega
  · omega
  · omega
  · show t.e ≤ t.e + p.a0
    omega
  · rw [ap_L _ _ i h0 (by omega)]
    unfold apL
    rw [if_pos (by omega)]
    have := hA (i + 1)
    omega
  · rw [Bool.eq_false_iff]
    intro hc
    obtain ⟨t1, t2, t3, t4, t5⟩ := tle_iff.1 hc
    have t4' : t.e + p.a0 ≤ t.e := t4
    have key : ∀ i : Int, 0 ≤ i → i < p.k → p.A (i + 1) = 0 := by
      intro i h0 h1
      have := t5 i h0 (by show i < p.k + p.u; omega)
      rw [ap_L _ _ i h0 (by omega)] at this
      unfold apL at this
      rw [if_pos h1] at this
      have := hA (i + 1)
      omega
    have q1 : p.a1 = 0 := by
      by_cases c : p.k < 1
      · exact gp.z1 c
      · simpa [Pa.A] using key 0 (by omega) (by omega)
    have q2 : p.a2 = 0 := by
      by_cases c : p.k < 2
      · exact gp.z2 c
      · simpa [Pa.A] using key 1 (by omega) (by omega)
    have q3 : p.a3 = 0 := by
      by_cases c : p.k < 3
      · exact gp.z3 c
      · simpa [Pa.A] using key 2 (by omega) (by omega)
    omega
/-- An order of ways. -/
theorem le_refl' {p : Pa} (h : chk p = 0) : leR p p = true :=
  le_mk (good_iff.1 h) (good_iff.1 h) rfl rfl (Int.le_refl _) (Int.le_refl _) (fun _ _ _ => Int.le_refl _)
theorem le_trans' {p q s : Pa} (h1 : leR p q = true) (h2 : leR q s = true) : leR p s = true := by
  obtain ⟨gp, gq, hf, hd, hk, ha, hl⟩ := le_inv h1
  obtain ⟨_, gs, hf', hd', hk', ha', hl'⟩ := le_inv h2
  exact le_mk gp gs (by omega) (by omega) (by omega) (by omega) (fun i h2 hi => by
    have := hl i h2 hi
    have := hl' i h2 (by omega)
    omega)
theorem le_anti {p q : Pa} (h1 : leR p q = true) (h2 : leR q p = true) : p = q := by
  obtain ⟨gp, gq, hf, hd, hk, ha, hl⟩ := le_inv h1
  obtain ⟨_, _, hf', hd', hk', ha', hl'⟩ := le_inv h2
  have ek : p.k = q.k := by omega
  have eu : p.u = q.u := by omega
  have k0 := gp.k0
  have k3 := gp.u3
  refine pa_ext hf ek eu (fun i h0 h3 => ?_) (fun i h0 h2 => ?_)
  · by_cases hi0 : i = 0
    · subst hi0
      have : p.a0 = q.a0 := by omega
      simpa [Pa.A] using this
    by_cases hi : i ≤ p.k
    · obtain ⟨n, hn⟩ := Int.eq_ofNat_of_zero_le (show 0 ≤ i - 1 by omega)
      have a1 := hl n (by omega) (by have := gp.u0; omega)
      have a2 := hl' n (by omega) (by have := gp.u0; omega)
      rw [least_A (by omega) (by omega), least_A (by omega) (by omega), ← hn, show i - 1 + 1 = i by omega] at a1 a2
      omega
    · rw [gp.A0 (by omega) h3, gq.A0 (by omega) h3]
  · by_cases hi : i < p.u
    · obtain ⟨n, hn⟩ := Int.eq_ofNat_of_zero_le (show 0 ≤ p.k + i by omega)
      have a1 := hl n (by omega) (by omega)
      have a2 := hl' n (by omega) (by omega)
      rw [least_L (by omega) (by omega) (by omega), least_L (by omega) (by omega) (by omega), ← hn, ← ek, show p.k + i - p.k = i by omega] at a1 a2
      omega
    · rw [gp.L0 (by omega) h2, gq.L0 (by omega) h2]
def paL (p : Pa) : List Int := [p.f, p.k, p.a0, p.a1, p.a2, p.a3, p.u, p.l0, p.l1, p.l2]
theorem compare_L (p q : Pa) : compareR p q = orL (cmpL (paL p) (paL q)) := rfl
theorem paL_inj {p q : Pa} (h : paL p = paL q) : p = q := by
  cases p; cases q
  simp [paL] at h
  simp [h]
theorem orL_cons (x : Int) (l : List Int) : orL (x :: l) = if x = 0 then orL l else x := by
  rw [orL]
theorem cmp_neg (a b : Int) : cmpI a b = - cmpI b a := by unfold cmpI; split <;> split <;> (try split) <;> omega
theorem cmp_zero {a b : Int} : cmpI a b = 0 ↔ a = b := by unfold cmpI; split <;> (try split) <;> omega
theorem lex_neg : ∀ (xs ys : List Int), orL (cmpL xs ys) = - orL (cmpL ys xs)
  | [], [] => rfl
  | [], _ :: _ => rfl
  | _ :: _, [] => rfl
  | x :: xs, y :: ys => by
    show orL (cmpI x y :: cmpL xs ys) = - orL (cmpI y x :: cmpL ys xs)
    rw [orL_cons, orL_cons]
    have := cmp_neg x y
    have ih := lex_neg xs ys
    split <;> split <;> omega
theorem lex_zero : ∀ (xs ys : List Int), xs.length = ys.length → (orL (cmpL xs ys) = 0 ↔ xs = ys)
  | [], [], _ => ⟨fun _ => rfl, fun _ => rfl⟩
  | x :: xs, y :: ys, h => by
    show orL (cmpI x y :: cmpL xs ys) = 0 ↔ _
    rw [orL_cons]
    have ih := lex_zero xs ys (by simpa using h)
    have := @cmp_zero x y
    split
    · rename_i e
      rw [ih, this.1 e]; simp
    · rename_i e
      constructor
      · intro h; exact absurd h e
      · intro h; injection h with h1 h2; exact absurd (this.2 h1) e
theorem lex_trans : ∀ (xs ys zs : List Int), xs.length = ys.length → ys.length = zs.length → orL (cmpL xs ys) ≤ 0 → orL (cmpL ys zs) ≤ 0 → orL (cmpL xs zs) ≤ 0
  | [], [], [], _, _, _, _ => by show (0 : Int) ≤ 0; omega
  | x :: xs, y :: ys, z :: zs, h1, h2, a, b => by
    have a' : orL (cmpI x y :: cmpL xs ys) ≤ 0 := a
    have b' : orL (cmpI y z :: cmpL ys zs) ≤ 0 := b
    show orL (cmpI x z :: cmpL xs zs) ≤ 0
    rw [orL_cons] at a' b' ⊢
    have ih := lex_trans xs ys zs (by simpa using h1) (by simpa using h2)
    rcases Int.lt_trichotomy y z with c2 | c2 | c2
    · rw [cmpI_lt (show x < z from ?_)]
      · rw [if_neg (by omega)]; omega
      · rcases Int.lt_trichotomy x y with c1 | c1 | c1
        · omega
        · omega
        · rw [cmpI_gt c1, if_neg (by omega)] at a'; omega
    · subst c2
      rw [cmpI_eq rfl, if_pos rfl] at b'
      rcases Int.lt_trichotomy x y with c1 | c1 | c1
      · rw [cmpI_lt c1, if_neg (by omega)]; omega
      · subst c1
        rw [cmpI_eq rfl, if_pos rfl] at a' ⊢
        exact ih a' b'
      · rw [cmpI_gt c1, if_neg (by omega)] at a'; omega
    · rw [cmpI_gt c2, if_neg (by omega)] at b'; omega
theorem compare_neg (p q : Pa) : compareR p q = - compareR q p := by rw [compare_L, compare_L]; exact lex_neg _ _
theorem compare_zero (p q : Pa) : compareR p q = 0 ↔ p = q := by
  rw [compare_L, lex_zero (paL p) (paL q) rfl]; exact ⟨paL_inj, fun h => by rw [h]⟩
theorem compare_trans (p q s : Pa) (h1 : compareR p q ≤ 0) (h2 : compareR q s ≤ 0) : compareR p s ≤ 0 := by
  rw [compare_L] at *; exact lex_trans (paL p) (paL q) (paL s) rfl rfl h1 h2
end Go.Proofs.Ytfmnbkcjibhloaa
