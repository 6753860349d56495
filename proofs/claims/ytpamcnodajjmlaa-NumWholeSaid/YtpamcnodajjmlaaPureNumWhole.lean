/- The quotient times the divisor, and the rest, are the value, and the rest is less than the divisor; no condition. -/
import Derived.Test.YtpamcnodajjmlaaPNumWholex1
namespace Go.Proofs.Ytpamcnodajjmlaa.Pure
open Go.RowKit Go.Proofs.Ytpamcnodajjmlaa.PNumWhole Go.Proofs.YtpamcnodajjmlaaW.PrintWords Go.Proofs.YtpamcnodajjmlaaW.PrintLast

theorem bdI {x : Int} (h : (Lit.int .i64 x).wf = true) : -9223372036854775808 ≤ x ∧ x ≤ 9223372036854775807 := by
  simp [Lit.wf, IntKind.min, IntKind.max, IntKind.bits, IntKind.signed] at h; omega

theorem works_ok : watershedlaw01_works.f 1 = some true := by
  decide +kernel

theorem NumWhole : watershedlaw01_NumWhole.Pure := by
  intro a b ha hb
  obtain ⟨a0, a1⟩ := bdI ha
  obtain ⟨b0, b1⟩ := bdI hb
  clear ha hb
  refine ⟨1, ?_⟩
  unfold watershedlaw01_NumWhole.f
  rw [works_ok]
  unfold num_Floor.f
  simp only [Option.bind_some, if_true]
  by_cases h : b < 1
  · simp [h]
  have h0 : ¬ b = 0 := by omega
  have hd : Int.tmod a b + b * Int.tdiv a b = a := Int.tmod_add_mul_tdiv a b
  have hm : Int.tmod a b < b := Int.tmod_lt_of_pos a (by omega)
  have hm' : -b < Int.tmod a b := by
    have := Int.tmod_lt_of_pos (-a) (show 0 < b by omega)
    rw [Int.neg_tmod] at this; omega
  have hq : Int.tdiv a b * b = b * Int.tdiv a b := Int.mul_comm _ _
  have hq1 : -9223372036854775808 ≤ Int.tdiv a b ∧ Int.tdiv a b ≤ 9223372036854775807 := by
    have := Int.natAbs_tdiv_le_natAbs a b
    by_cases h9 : 0 ≤ a
    · have := Int.tdiv_nonneg h9 (show 0 ≤ b by omega); omega
    · have := Int.tdiv_nonneg (show 0 ≤ -a by omega) (show 0 ≤ b by omega); rw [Int.neg_tdiv] at this; omega
  have e1 : wrap64 (Int.tdiv a b) = Int.tdiv a b := by unfold wrap64; omega
  by_cases h1 : Int.tmod a b < 0
  · have e3 : wrap64 (Int.tmod a b + b) = Int.tmod a b + b := by unfold wrap64; omega
    have e5 : wrap64 (wrap64 (wrap64 (Int.tdiv a b - 1) * b) + (Int.tmod a b + b)) = a := by
      have hk : ∃ k, wrap64 (Int.tdiv a b - 1) = Int.tdiv a b - 1 + k * 18446744073709551616 := by
        refine ⟨-((Int.tdiv a b - 1 + 9223372036854775808) / 18446744073709551616), ?_⟩; unfold wrap64; omega
      obtain ⟨k, hk⟩ := hk
      rw [hk]
      have e : (Int.tdiv a b - 1 + k * 18446744073709551616) * b = (a - Int.tmod a b - b) + 18446744073709551616 * (k * b) := by
        have x1 : (Int.tdiv a b - 1 + k * 18446744073709551616) * b = Int.tdiv a b * b - b + k * 18446744073709551616 * b := by rw [Int.add_mul, Int.sub_mul, Int.one_mul]
        have x2 : k * 18446744073709551616 * b = 18446744073709551616 * (k * b) := by rw [Int.mul_comm k, Int.mul_assoc]
        rw [x1, x2]; omega
      rw [e]
      generalize k * b = z
      unfold wrap64; omega
    have h2 : Int.tmod a b + b ≥ 0 := by omega
    have h3 : Int.tmod a b + b < b := by omega
    simp only [h, h0, h1, if_true, if_false, Option.bind_some, e1, e3, h2, h3, e5]
    simp
  · have h2 : Int.tmod a b ≥ 0 := by omega
    have e5 : wrap64 (wrap64 (Int.tdiv a b * b) + Int.tmod a b) = a := by
      have e6 : wrap64 (Int.tdiv a b * b) = a - Int.tmod a b := by
        have : Int.tdiv a b * b = a - Int.tmod a b := by omega
        rw [this]; 
        by_cases h9 : 0 ≤ a
        · have := Int.tmod_nonneg b h9; have := Int.tdiv_nonneg h9 (show 0 ≤ b by omega); have := Int.mul_nonneg this (show 0 ≤ b by omega); unfold wrap64; omega
        · have : Int.tmod a b = 0 := by
            have := Int.tmod_nonneg b (show 0 ≤ -a by omega); rw [Int.neg_tmod] at this; omega
          unfold wrap64; omega
      rw [e6]; unfold wrap64; omega
    simp only [h, h0, h1, if_true, if_false, Option.bind_some, e1, h2, hm, e5]
    simp


end Go.Proofs.Ytpamcnodajjmlaa.Pure
