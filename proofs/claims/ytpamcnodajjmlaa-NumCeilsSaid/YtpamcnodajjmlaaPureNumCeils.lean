/- Ceil of the program and of the reference give the same for any two numbers; no condition. -/
import Derived.Test.YtpamcnodajjmlaaPNumCeilsx1
namespace Go.Proofs.Ytpamcnodajjmlaa.Pure
open Go.RowKit Go.Proofs.Ytpamcnodajjmlaa.PNumCeils Go.Proofs.YtpamcnodajjmlaaW.PrintWords Go.Proofs.YtpamcnodajjmlaaW.PrintLast

theorem bdI {x : Int} (h : (Lit.int .i64 x).wf = true) : -9223372036854775808 ≤ x ∧ x ≤ 9223372036854775807 := by
  simp [Lit.wf, IntKind.min, IntKind.max, IntKind.bits, IntKind.signed] at h; omega

theorem ceil_up (a b : Int) (_a0 : 0 ≤ a) (b0 : 1 ≤ b) : (a + b - 1) / b = if a / b * b < a then a / b + 1 else a / b := by
  have h1 : a % b + b * (a / b) = a := Int.emod_add_mul_ediv a b
  have h2 : 0 ≤ a % b := Int.emod_nonneg a (by omega)
  have h3 : a % b < b := Int.emod_lt_of_pos a (by omega)
  have h4 : b * (a / b) = a / b * b := Int.mul_comm _ _
  generalize a / b = q at *
  generalize a % b = r at *
  by_cases h : q * b < a
  · rw [if_pos h]
    have e : a + b - 1 = (r - 1) + b * (q + 1) := by rw [Int.mul_add, Int.mul_one]; omega
    rw [e, Int.add_mul_ediv_left _ _ (by omega), Int.ediv_eq_zero_of_lt (by omega) (by omega)]; omega
  · rw [if_neg h]
    have e : a + b - 1 = (b - 1) + b * q := by omega
    rw [e, Int.add_mul_ediv_left _ _ (by omega), Int.ediv_eq_zero_of_lt (by omega) (by omega)]; omega

theorem NumCeils : watershedlaw01_NumCeils.Pure := by
  intro a b ha hb
  obtain ⟨a0, a1⟩ := bdI ha
  obtain ⟨b0, b1⟩ := bdI hb
  clear ha hb
  refine ⟨1, ?_⟩
  unfold watershedlaw01_NumCeils.f num_Ceil.f watershedref01_Ceil.f
  simp only [watershedref01_Ceil.j0]
  by_cases h1 : a < 0
  · simp [h1]
  by_cases h2 : a > 1099511627776
  · simp [h1, h2]
  by_cases h3 : b < 1
  · simp [h1, h2, h3]
  by_cases h4 : b > 1099511627776
  · simp [h1, h2, h3, h4]
  have h5 : ¬ b = 0 := by omega
  have q0 : 0 ≤ a / b := Int.ediv_nonneg (by omega) (by omega)
  have q1 : a / b ≤ a := Int.ediv_le_self _ (by omega)
  have q2 : a / b * b ≤ a := Int.ediv_mul_le _ h5
  have q3 : 0 ≤ a / b * b := Int.mul_nonneg q0 (by omega)
  have e1 : wrap64 (a + b) = a + b := by unfold wrap64; omega
  have e2 : wrap64 (a + b - 1) = a + b - 1 := by unfold wrap64; omega
  have e3 : Int.tdiv (a + b - 1) b = (a + b - 1) / b := Int.tdiv_eq_ediv_of_nonneg (by omega)
  have e4 : Int.tdiv a b = a / b := Int.tdiv_eq_ediv_of_nonneg (by omega)
  have e5 : wrap64 (a / b) = a / b := by unfold wrap64; omega
  have e6 : wrap64 (a / b * b) = a / b * b := by unfold wrap64; omega
  have e7 : wrap64 (a / b + 1) = a / b + 1 := by unfold wrap64; omega
  have e8 := ceil_up a b (by omega) (by omega)
  have e9 : wrap64 ((a + b - 1) / b) = (a + b - 1) / b := by
    rw [e8]; split
    · exact e7
    · exact e5
  simp only [h1, h2, h3, h4, h5, if_false, decide_false, e1, e2, e3, e4, e5, e6, e9, Option.bind_some, Bool.false_eq_true]
  by_cases h6 : a / b * b < a
  · rw [if_pos h6] at e8
    simp only [h6, if_true, e7, e8, Option.bind_some]; rfl
  · rw [if_neg h6] at e8
    simp only [h6, if_false, e8, Option.bind_some]; rfl


end Go.Proofs.Ytpamcnodajjmlaa.Pure
