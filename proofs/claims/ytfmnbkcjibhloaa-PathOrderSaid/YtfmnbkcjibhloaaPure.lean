/- Ways and times, as plain numbers: what becomes of a time, one way behind another one, and how they stand. No Go here. -/
import Derived.Test.YtfmnbkcjibhloaaRle
import Derived.Test.YtfmnbkcjibhloaaOp
namespace Go.Proofs.Ytfmnbkcjibhloaa
set_option linter.unusedVariables false
set_option linter.unusedSimpArgs false
deriving instance DecidableEq for Tm
def tm0 : Tm := ⟨0, 0, 0, 0, 0⟩
def Pa.A (p : Pa) (i : Int) : Int := if i = 0 then p.a0 else if i = 1 then p.a1 else if i = 2 then p.a2 else if i = 3 then p.a3 else 0
def Pa.L (p : Pa) (i : Int) : Int := if i = 0 then p.l0 else if i = 1 then p.l1 else if i = 2 then p.l2 else 0
def Tm.L (t : Tm) (i : Int) : Int := if i = 0 then t.l0 else if i = 1 then t.l1 else if i = 2 then t.l2 else 0
/-- What is wrong with a time. -/
def tck (t : Tm) : Int := if ¬ (0 ≤ t.d ∧ t.d ≤ 3) then 10 else if (gr t.e || [t.l0, t.l1, t.l2].any gr) = true then 1 else if (t.d ≤ 0 ∧ t.l0 ≠ 0) ∨ (t.d ≤ 1 ∧ t.l1 ≠ 0) ∨ (t.d ≤ 2 ∧ t.l2 ≠ 0) then 6 else 0
def apL (p : Pa) (t : Tm) (i : Int) : Int := if i < p.k then t.L i + p.A (i + 1) else if i < p.k + p.u then p.L (i - p.k) else 0
def apT (p : Pa) (t : Tm) : Tm := ⟨t.e + p.a0, p.k + p.u, apL p t 0, apL p t 1, apL p t 2⟩
def apOver (p : Pa) (t : Tm) : Bool := decide (1048576 < t.e + p.a0 ∨ 1048576 < apL p t 0 ∨ 1048576 < apL p t 1 ∨ 1048576 < apL p t 2)
/-- What becomes of a time. -/
def applyR (p : Pa) (t : Tm) : Tm × Int := if chk p ≠ 0 then (tm0, chk p) else if tck t ≠ 0 then (tm0, tck t) else if t.d ≠ p.f then (tm0, 10) else if apOver p t = true then (tm0, 9) else (apT p t, 0)
def thK (p q : Pa) : Int := if p.k ≤ q.k then p.k else q.k
def thM (p q : Pa) : Int := if p.k ≤ q.k then q.k - p.k else 0
def thA (p q : Pa) (i : Int) : Int := if i ≤ thK p q then p.A i + q.A i else 0
def thL (p q : Pa) (j : Int) : Int := if j < thM p q then p.L j + q.A (1 + p.k + j) else if j < thM p q + q.u then q.L (j - thM p q) else 0
def thP (p q : Pa) : Pa := ⟨p.f, thK p q, thA p q 0, thA p q 1, thA p q 2, thA p q 3, thM p q + q.u, thL p q 0, thL p q 1, thL p q 2⟩
def paOver (x : Pa) : Bool := decide (1048576 < x.a0 ∨ 1048576 < x.a1 ∨ 1048576 < x.a2 ∨ 1048576 < x.a3 ∨ 1048576 < x.l0 ∨ 1048576 < x.l1 ∨ 1048576 < x.l2)
/-- One way, and then another one. -/
def thenR (p q : Pa) : Pa × Int := if chk p ≠ 0 then (pa0, chk p) else if chk q ≠ 0 then (pa0, chk q) else if toR p ≠ q.f then (pa0, 10) else if paOver (thP p q) = true then (pa0, 9) else (thP p q, 0)
/-- How times stand. -/
def tleR (a b : Tm) : Bool := decide (a.d = b.d ∧ 0 ≤ a.d ∧ a.d ≤ 3 ∧ a.e ≤ b.e ∧ (0 < a.d → a.l0 ≤ b.l0) ∧ (1 < a.d → a.l1 ≤ b.l1) ∧ (2 < a.d → a.l2 ≤ b.l2))

/-- A way is well formed, as numbers. -/
structure Good (p : Pa) : Prop where
  f0 : 0 ≤ p.f
  f3 : p.f ≤ 3
  k0 : 0 ≤ p.k
  kf : p.k ≤ p.f
  u0 : 0 ≤ p.u
  u3 : p.k + p.u ≤ 3
  g0 : p.a0 ≤ 1048576
  g1 : p.a1 ≤ 1048576
  g2 : p.a2 ≤ 1048576
  g3 : p.a3 ≤ 1048576
  h0 : p.l0 ≤ 1048576
  h1 : p.l1 ≤ 1048576
  h2 : p.l2 ≤ 1048576
  z1 : p.k < 1 → p.a1 = 0
  z2 : p.k < 2 → p.a2 = 0
  z3 : p.k < 3 → p.a3 = 0
  y0 : p.u < 1 → p.l0 = 0
  y1 : p.u < 2 → p.l1 = 0
  y2 : p.u < 3 → p.l2 = 0
theorem gr_no {n : Int} (h : gr n = false) : n ≤ 1048576 := by simpa [gr] using h
theorem gr_no' {n : Int} (h : n ≤ 1048576) : gr n = false := by simpa [gr] using h
theorem so_no {n : Int} (h : so n = false) : n = 0 := by simpa [so] using h
theorem good_iff {p : Pa} : chk p = 0 ↔ Good p := by
  constructor
  · intro h
    have hd := chk_0 h
    obtain ⟨d1, d2, d3, d4, d5, d6⟩ := dpt_no hd
    unfold chk at h
    rw [hd] at h
    simp only [Bool.false_eq_true, if_false] at h
    by_cases hg : (p.al.any gr || p.ll.any gr) = true
    · rw [if_pos hg] at h; omega
    rw [if_neg hg] at h
    by_cases hs : ((p.al.drop (1 + p.k).toNat).any so || (p.ll.drop p.u.toNat).any so) = true
    · rw [if_pos hs] at h; omega
    simp only [Bool.not_eq_true, Bool.or_eq_false_iff, List.any_eq_false, Pa.al, Pa.ll] at hg hs
    have A : ∀ (t : Nat) (x : Int), 1 + p.k ≤ t → [p.a0, p.a1, p.a2, p.a3][t]? = some x → x = 0 := by
      intro t x ht hx
      refine so_no (hs.1 x ?_)
      rw [List.mem_iff_getElem?]
      exact ⟨t - (1 + p.k).toNat, by rw [List.getElem?_drop, ← hx]; congr 1; omega⟩
    have L : ∀ (t : Nat) (x : Int), p.u ≤ t → [p.l0, p.l1, p.l2][t]? = some x → x = 0 := by
      intro t x ht hx
      refine so_no (hs.2 x ?_)
      rw [List.mem_iff_getElem?]
      exact ⟨t - p.u.toNat, by rw [List.getElem?_drop, ← hx]; congr 1; omega⟩
    simp only [List.mem_cons, List.not_mem_nil, or_false, forall_eq_or_imp, forall_eq, Bool.not_eq_true] at hg
    exact ⟨d1, d2, d3, d4, d5, by omega, gr_no hg.1.1, gr_no hg.1.2.1, gr_no hg.1.2.2.1, gr_no hg.1.2.2.2, gr_no hg.2.1, gr_no hg.2.2.1, gr_no hg.2.2.2,
      fun h => A 1 _ (by omega) rfl, fun h => A 2 _ (by omega) rfl, fun h => A 3 _ (by omega) rfl, fun h => L 0 _ (by omega) rfl, fun h => L 1 _ (by omega) rfl, fun h => L 2 _ (by omega) rfl⟩
  · intro h
    have hd : dpt p = false := by have := h.f0; have := h.f3; have := h.k0; have := h.kf; have := h.u0; have := h.u3; simp [dpt]; omega
    refine chk_ok hd (chk_gr0 (fun t x hx => ?_) (fun t x hx => ?_)) ?_
    · rcases t with _ | _ | _ | _ | t <;> cases hx
      · exact gr_no' h.g0
      · exact gr_no' h.g1
      · exact gr_no' h.g2
      · exact gr_no' h.g3
    · rcases t with _ | _ | _ | t <;> cases hx
      · exact gr_no' h.h0
      · exact gr_no' h.h1
      · exact gr_no' h.h2
    · have hk := h.k0
      have hu := h.u0
      rw [drop_no p.al _ (fun t x ht hx => ?_), drop_no p.ll _ (fun t x ht hx => ?_)]
      · rfl
      · rcases t with _ | _ | _ | t <;> cases hx
        · rw [h.y0 (by omega)]; rfl
        · rw [h.y1 (by omega)]; rfl
        · rw [h.y2 (by omega)]; rfl
      · rcases t with _ | _ | _ | _ | t <;> cases hx
        · omega
        · rw [h.z1 (by omega)]; rfl
        · rw [h.z2 (by omega)]; rfl
        · rw [h.z3 (by omega)]; rfl
theorem Good.to {p : Pa} (h : Good p) : toR p = p.k + p.u := toR_ok (good_iff.2 h)
theorem paOver_no {x : Pa} (h : paOver x = false) : x.a0 ≤ 1048576 ∧ x.a1 ≤ 1048576 ∧ x.a2 ≤ 1048576 ∧ x.a3 ≤ 1048576 ∧ x.l0 ≤ 1048576 ∧ x.l1 ≤ 1048576 ∧ x.l2 ≤ 1048576 := by
  simp only [paOver, decide_eq_false_iff_not] at h; omega
theorem apOver_no {p : Pa} {t : Tm} (h : apOver p t = false) : t.e + p.a0 ≤ 1048576 ∧ apL p t 0 ≤ 1048576 ∧ apL p t 1 ≤ 1048576 ∧ apL p t 2 ≤ 1048576 := by
  simp only [apOver, decide_eq_false_iff_not] at h; omega
theorem A_of (p : Pa) (i : Int) : (i = 0 → p.A i = p.a0) ∧ (i = 1 → p.A i = p.a1) ∧ (i = 2 → p.A i = p.a2) ∧ (i = 3 → p.A i = p.a3) := by
  unfold Pa.A; refine ⟨?_, ?_, ?_, ?_⟩ <;> rintro rfl <;> simp
/-- The parts of one way, and then another one. -/
theorem th_A (p q : Pa) (i : Int) (h0 : 0 ≤ i) (h : i ≤ 3) : (thP p q).A i = thA p q i := by
  unfold Pa.A thP
  have : i = 0 ∨ i = 1 ∨ i = 2 ∨ i = 3 := by omega
  rcases this with rfl | rfl | rfl | rfl <;> simp
theorem th_L (p q : Pa) (i : Int) (h0 : 0 ≤ i) (h : i ≤ 2) : (thP p q).L i = thL p q i := by
  unfold Pa.L thP
  have : i = 0 ∨ i = 1 ∨ i = 2 := by omega
  rcases this with rfl | rfl | rfl <;> simp
theorem ap_L (p : Pa) (t : Tm) (i : Int) (h0 : 0 ≤ i) (h : i ≤ 2) : (apT p t).L i = apL p t i := by
  unfold Tm.L apT
  have : i = 0 ∨ i = 1 ∨ i = 2 := by omega
  rcases this with rfl | rfl | rfl <;> simp
theorem thP_good {p q : Pa} (hp : Good p) (hq : Good q) (hf : p.k + p.u = q.f) (ho : paOver (thP p q) = false) : Good (thP p q) := by
  obtain ⟨o0, o1, o2, o3, o4, o5, o6⟩ := paOver_no ho
  have a1 := hp.f0; have a2 := hp.f3; have a3 := hp.k0; have a4 := hp.kf; have a5 := hp.u0; have a6 := hp.u3
  have b3 := hq.k0; have b4 := hq.kf; have b5 := hq.u0; have b6 := hq.u3
  have K : 0 ≤ thK p q ∧ thK p q ≤ p.f ∧ thK p q + (thM p q + q.u) ≤ 3 ∧ 0 ≤ thM p q := by unfold thK thM; split <;> omega
  obtain ⟨k1, k2, k3, k4⟩ := K
  refine ⟨a1, a2, k1, k2, by show 0 ≤ thM p q + q.u; omega, k3, o0, o1, o2, o3, o4, o5, o6, ?_, ?_, ?_, ?_, ?_, ?_⟩
  all_goals (intro h; simp only [thP] at h ⊢)
  · unfold thA; rw [if_neg (by omega)]
  · unfold thA; rw [if_neg (by omega)]
  · unfold thA; rw [if_neg (by omega)]
  · unfold thL; rw [if_neg (by omega), if_neg (by omega)]
  · unfold thL; rw [if_neg (by omega), if_neg (by omega)]
  · unfold thL; rw [if_neg (by omega), if_neg (by omega)]
end Go.Proofs.Ytfmnbkcjibhloaa
