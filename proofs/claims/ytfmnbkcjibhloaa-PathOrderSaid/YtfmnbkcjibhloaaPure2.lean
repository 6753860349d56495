/- The plain laws of ways: both, brackets, never behind, along a way, an order. No Go here. -/
import Derived.Test.YtfmnbkcjibhloaaPure
import Derived.Test.YtfmnbkcjibhloaaCmp2
namespace Go.Proofs.Ytfmnbkcjibhloaa
set_option linter.unusedVariables false
set_option linter.unusedSimpArgs false
theorem tck_iff {t : Tm} : tck t = 0 ↔ (0 ≤ t.d ∧ t.d ≤ 3 ∧ t.e ≤ 1048576 ∧ t.l0 ≤ 1048576 ∧ t.l1 ≤ 1048576 ∧ t.l2 ≤ 1048576 ∧ (t.d ≤ 0 → t.l0 = 0) ∧ (t.d ≤ 1 → t.l1 = 0) ∧ (t.d ≤ 2 → t.l2 = 0)) := by
  unfold tck
  by_cases h1 : 0 ≤ t.d ∧ t.d ≤ 3
  · rw [if_neg (by simpa using h1)]
    by_cases h2 : (gr t.e || [t.l0, t.l1, t.l2].any gr) = true
    · rw [if_pos h2]
      simp [gr] at h2
      constructor
      · omega
      · intro h; omega
    · rw [if_neg h2]
      simp [gr] at h2
      by_cases h3 : (t.d ≤ 0 ∧ t.l0 ≠ 0) ∨ (t.d ≤ 1 ∧ t.l1 ≠ 0) ∨ (t.d ≤ 2 ∧ t.l2 ≠ 0)
      · rw [if_pos h3]
        constructor
        · omega
        · intro h; omega
      · rw [if_neg h3]
        constructor
        · intro _; omega
        · intro h; rfl
  · rw [if_pos h1]
    constructor
    · omega
    · intro h; omega
theorem apT_ok {p : Pa} {t : Tm} (hp : Good p) (ho : apOver p t = false) : tck (apT p t) = 0 := by
  obtain ⟨o1, o2, o3, o4⟩ := apOver_no ho
  have h1 := hp.k0; have h2 := hp.u0; have h3 := hp.u3
  rw [tck_iff]
  refine ⟨by show 0 ≤ p.k + p.u; omega, h3, o1, o2, o3, o4, fun h => ?_, fun h => ?_, fun h => ?_⟩
  all_goals (simp only [apT] at h ⊢; unfold apL; rw [if_neg (by omega), if_neg (by omega)])
theorem pa_ext {p q : Pa} (h1 : p.f = q.f) (h2 : p.k = q.k) (h3 : p.u = q.u) (hA : ∀ i : Int, 0 ≤ i → i ≤ 3 → p.A i = q.A i) (hL : ∀ i : Int, 0 ≤ i → i ≤ 2 → p.L i = q.L i) : p = q := by
  have a0 := hA 0 (by omega) (by omega)
  have a1 := hA 1 (by omega) (by omega)
  have a2 := hA 2 (by omega) (by omega)
  have a3 := hA 3 (by omega) (by omega)
  have l0 := hL 0 (by omega) (by omega)
  have l1 := hL 1 (by omega) (by omega)
  have l2 := hL 2 (by omega) (by omega)
  simp [Pa.A] at a0 a1 a2 a3
  simp [Pa.L] at l0 l1 l2
  cases p; cases q
  simp_all
theorem tm_ext {s t : Tm} (h1 : s.e = t.e) (h2 : s.d = t.d) (hL : ∀ i : Int, 0 ≤ i → i ≤ 2 → s.L i = t.L i) : s = t := by
  have l0 := hL 0 (by omega) (by omega)
  have l1 := hL 1 (by omega) (by omega)
  have l2 := hL 2 (by omega) (by omega)
  simp [Tm.L] at l0 l1 l2
  cases s; cases t
  simp_all
theorem Good.A0 {p : Pa} (h : Good p) {i : Int} (h1 : p.k < i) (h3 : i ≤ 3) : p.A i = 0 := by
  have h0 := h.k0
  have : i = 1 ∨ i = 2 ∨ i = 3 := by omega
  rcases this with rfl | rfl | rfl
  · simpa [Pa.A] using h.z1 (by omega)
  · simpa [Pa.A] using h.z2 (by omega)
  · simpa [Pa.A] using h.z3 (by omega)
theorem Good.L0 {p : Pa} (h : Good p) {i : Int} (h1 : p.u ≤ i) (h3 : i ≤ 2) : p.L i = 0 := by
  have h0 := h.u0
  have : i = 0 ∨ i = 1 ∨ i = 2 := by omega
  rcases this with rfl | rfl | rfl
  · simpa [Pa.L] using h.y0 (by omega)
  · simpa [Pa.L] using h.y1 (by omega)
  · simpa [Pa.L] using h.y2 (by omega)
theorem Good.Ale {p : Pa} (h : Good p) (i : Int) : p.A i ≤ 1048576 := by
  have := h.g0; have := h.g1; have := h.g2; have := h.g3
  unfold Pa.A; split <;> (try split) <;> (try split) <;> (try split) <;> omega
theorem Good.Lle {p : Pa} (h : Good p) (i : Int) : p.L i ≤ 1048576 := by
  have := h.h0; have := h.h1; have := h.h2
  unfold Pa.L; split <;> (try split) <;> (try split) <;> omega
/-- What becomes of a round by both ways. -/
theorem comp_L {p q : Pa} {t : Tm} (hp : Good p) (hq : Good q) (hf : p.k + p.u = q.f) (i : Int) (h0 : 0 ≤ i) (h2 : i ≤ 2) : apL (thP p q) t i = apL q (apT p t) i := by
  have a3 := hp.k0; have a4 := hp.kf; have a5 := hp.u0; have a6 := hp.u3
  have b3 := hq.k0; have b4 := hq.kf; have b5 := hq.u0; have b6 := hq.u3
  have ek : (thP p q).k = thK p q := rfl
  have eu : (thP p q).u = thM p q + q.u := rfl
  unfold apL
  rw [ek, eu, ap_L p t i h0 h2]
  by_cases hk : p.k ≤ q.k
  · have e1 : thK p q = p.k := if_pos hk
    have e2 : thM p q = q.k - p.k := if_pos hk
    rw [e1, e2]
    by_cases c1 : i < p.k
    · rw [if_pos c1, if_pos (by omega), th_A p q (i + 1) (by omega) (by omega)]
      unfold thA apL
      rw [if_pos (by omega), if_pos c1]
      omega
    · rw [if_neg c1]
      by_cases c2 : i < q.k
      · rw [if_pos (by omega), if_pos c2, th_L p q (i - p.k) (by omega) (by omega)]
        unfold thL apL
        rw [if_pos (by omega), if_neg c1, if_pos (by omega), show 1 + p.k + (i - p.k) = i + 1 by omega]
      · rw [if_neg c2]
        by_cases c3 : i < q.k + q.u
        · rw [if_pos (by omega), if_pos c3, th_L p q (i - p.k) (by omega) (by omega)]
          unfold thL
          rw [if_neg (by omega), if_pos (by omega), e2, show i - p.k - (q.k - p.k) = i - q.k by omega]
        · rw [if_neg (by omega), if_neg c3]
  · have e1 : thK p q = q.k := if_neg hk
    have e2 : thM p q = 0 := if_neg hk
    rw [e1, e2]
    by_cases c1 : i < q.k
    · rw [if_pos c1, if_pos c1, th_A p q (i + 1) (by omega) (by omega)]
      unfold thA apL
      rw [if_pos (by omega), if_pos (by omega)]
      omega
    · rw [if_neg c1, if_neg c1]
      by_cases c2 : i < q.k + q.u
      · rw [if_pos (by omega), if_pos c2, th_L p q (i - q.k) (by omega) (by omega)]
        unfold thL
        rw [if_neg (by omega), if_pos (by omega), e2, show i - q.k - 0 = i - q.k by omega]
      · rw [if_neg (by omega), if_neg c2]
theorem comp_d {p q : Pa} (hp : Good p) (hq : Good q) (hf : p.k + p.u = q.f) : (thP p q).k + (thP p q).u = q.k + q.u := by
  show thK p q + (thM p q + q.u) = _
  unfold thK thM
  split <;> omega
theorem comp_T {p q : Pa} {t : Tm} (hp : Good p) (hq : Good q) (hf : p.k + p.u = q.f) : apT (thP p q) t = apT q (apT p t) := by
  have h3 := hq.k0
  refine tm_ext ?_ (comp_d hp hq hf) (fun i h0 h2 => ?_)
  · show t.e + thA p q 0 = t.e + p.a0 + q.a0
    unfold thA
    have : 0 ≤ thK p q := by have := hp.k0; unfold thK; split <;> omega
    rw [if_pos this]
    simp [Pa.A]; omega
  · rw [ap_L _ _ i h0 h2, ap_L _ _ i h0 h2]
    exact comp_L hp hq hf i h0 h2
theorem apOver_T (p : Pa) (t : Tm) : apOver p t = decide (1048576 < (apT p t).e ∨ 1048576 < (apT p t).l0 ∨ 1048576 < (apT p t).l1 ∨ 1048576 < (apT p t).l2) := rfl
theorem then_inv {p q : Pa} (h : (thenR p q).2 = 0) : Good p ∧ Good q ∧ p.k + p.u = q.f ∧ paOver (thP p q) = false ∧ thenR p q = (thP p q, 0) := by
  unfold thenR at h ⊢
  by_cases c1 : chk p ≠ 0
  · rw [if_pos c1] at h; exact absurd h c1
  by_cases c2 : chk q ≠ 0
  · rw [if_neg c1, if_pos c2] at h; exact absurd h c2
  by_cases c3 : toR p ≠ q.f
  · rw [if_neg c1, if_neg c2, if_pos c3] at h; cases h
  by_cases c4 : paOver (thP p q) = true
  · rw [if_neg c1, if_neg c2, if_neg c3, if_pos c4] at h; cases h
  rw [if_neg c1, if_neg c2, if_neg c3, if_neg c4]
  have hp := good_iff.1 (Decidable.not_not.1 c1)
  exact ⟨hp, good_iff.1 (Decidable.not_not.1 c2), by rw [← hp.to]; exact Decidable.not_not.1 c3, by simpa using c4, rfl⟩
theorem then_ok {p q : Pa} (hp : Good p) (hq : Good q) (hf : p.k + p.u = q.f) (ho : paOver (thP p q) = false) : thenR p q = (thP p q, 0) := by
  unfold thenR
  rw [if_neg (fun h => h (good_iff.2 hp)), if_neg (fun h => h (good_iff.2 hq)), if_neg (by rw [hp.to]; omega), if_neg (by rw [ho]; decide)]
theorem apply_inv {p : Pa} {t : Tm} (h : (applyR p t).2 = 0) : Good p ∧ tck t = 0 ∧ t.d = p.f ∧ apOver p t = false ∧ applyR p t = (apT p t, 0) := by
  unfold applyR at h ⊢
  by_cases c1 : chk p ≠ 0
  · rw [if_pos c1] at h; exact absurd h c1
  by_cases c2 : tck t ≠ 0
  · rw [if_neg c1, if_pos c2] at h; exact absurd h c2
  by_cases c3 : t.d ≠ p.f
  · rw [if_neg c1, if_neg c2, if_pos c3] at h; cases h
  by_cases c4 : apOver p t = true
  · rw [if_neg c1, if_neg c2, if_neg c3, if_pos c4] at h; cases h
  rw [if_neg c1, if_neg c2, if_neg c3, if_neg c4]
  exact ⟨good_iff.1 (Decidable.not_not.1 c1), Decidable.not_not.1 c2, Decidable.not_not.1 c3, by simpa using c4, rfl⟩
theorem apply_ok {p : Pa} {t : Tm} (hp : Good p) (ht : tck t = 0) (hf : t.d = p.f) (ho : apOver p t = false) : applyR p t = (apT p t, 0) := by
  unfold applyR
  rw [if_neg (fun h => h (good_iff.2 hp)), if_neg (fun h => h ht), if_neg (fun h => h hf), if_neg (by rw [ho]; decide)]
theorem apply_over {p : Pa} {t : Tm} (hp : Good p) (ht : tck t = 0) (hf : t.d = p.f) (ho : apOver p t = true) : applyR p t = (tm0, 9) := by
  unfold applyR
  rw [if_neg (fun h => h (good_iff.2 hp)), if_neg (fun h => h ht), if_neg (fun h => h hf), if_pos ho]
/-- PathThen, as numbers. -/
theorem then_law (p q : Pa) (t : Tm) (h0 : (thenR p q).2 = 0) (ht : tck t = 0) (ha : (applyR p t).2 = 0) : applyR (thenR p q).1 t = applyR q (applyR p t).1 := by
  obtain ⟨hp, hq, hf, ho, e⟩ := then_inv h0
  obtain ⟨_, _, td, ov, ea⟩ := apply_inv ha
  have hx := thP_good hp hq hf ho
  rw [e, ea]
  show applyR (thP p q) t = applyR q (apT p t)
  have eo : apOver (thP p q) t = apOver q (apT p t) := by rw [apOver_T, apOver_T, comp_T hp hq hf]
  rcases h : apOver q (apT p t) with _ | _
  · rw [apply_ok hx ht td (eo.trans h), apply_ok hq (apT_ok hp ov) hf h, comp_T hp hq hf]
  · rw [apply_over hx ht td (eo.trans h), apply_over hq (apT_ok hp ov) hf h]
theorem then_law' (p q : Pa) (t : Tm) (h0 : (thenR p q).2 = 0) (ht : tck t = 0) (ha : (applyR p t).2 ≠ 0) : (applyR p t).2 = 9 ∨ ((applyR p t).2 = 10 ∧ (applyR (thenR p q).1 t).2 = 10) := by
  obtain ⟨hp, hq, hf, ho, e⟩ := then_inv h0
  have hx := thP_good hp hq hf ho
  rw [e]
  show _ ∨ (_ ∧ (applyR (thP p q) t).2 = 10)
  by_cases c5 : t.d ≠ p.f
  · right
    unfold applyR
    have c6 : t.d ≠ (thP p q).f := c5
    rw [if_neg (fun h => h (good_iff.2 hp)), if_neg (fun h => h ht), if_pos c5, if_neg (fun h => h (good_iff.2 hx)), if_neg (fun h => h ht), if_pos c6]
    exact ⟨rfl, rfl⟩
  · left
    rcases h : apOver p t with _ | _
    · rw [apply_ok hp ht (Decidable.not_not.1 c5) h] at ha; exact absurd rfl ha
    · rw [apply_over hp ht (Decidable.not_not.1 c5) h]
end Go.Proofs.Ytfmnbkcjibhloaa
