/- Mix and Part of the program and of the reference give the same for any key and any number of parts; no condition. -/
import Derived.Test.YtpamcnodajjmlaaPNumMixesx1
namespace Go.Proofs.Ytpamcnodajjmlaa.Pure
open Go.RowKit Go.Proofs.Ytpamcnodajjmlaa.PNumMixes Go.Proofs.YtpamcnodajjmlaaW.PrintWords Go.Proofs.YtpamcnodajjmlaaW.PrintLast

theorem bdI {x : Int} (h : (Lit.int .i64 x).wf = true) : -9223372036854775808 ≤ x ∧ x ≤ 9223372036854775807 := by
  simp [Lit.wf, IntKind.min, IntKind.max, IntKind.bits, IntKind.signed] at h; omega

theorem mix_same (a : Int) : watershedref01_Mix.f a = num_Mix.f a := rfl
theorem mix_bd (a m : Int) (h : num_Mix.f a = some m) : 0 ≤ m ∧ m < 4294967296 := by
  unfold num_Mix.f at h
  simp only [Option.some.injEq] at h
  rw [← h]
  exact ⟨Int.emod_nonneg _ (by omega), Int.emod_lt_of_pos _ (by omega)⟩
theorem mix_some (a : Int) : ∃ m, num_Mix.f a = some m := ⟨_, rfl⟩

theorem NumMixes : watershedlaw01_NumMixes.Pure := by
  intro a b ha hb
  obtain ⟨b0, b1⟩ := bdI hb
  clear ha hb
  obtain ⟨m, hm⟩ := mix_some a
  obtain ⟨m0, m1⟩ := mix_bd a m hm
  unfold watershedlaw01_NumMixes.f num_Part.f watershedref01_Part.f
  rw [mix_same, hm]
  simp only [Option.bind_some]
  by_cases h1 : b < 1
  · simp [h1]
  by_cases h2 : b > 64
  · simp [h1, h2]
  have e1 : IntKind.u64.wrap b = b := by rw [IntKind.wrap_u64]; omega
  have e2 : IntKind.u64.wrap m = m := by rw [IntKind.wrap_u64]; omega
  have e3 : b % 4294967296 = b := by omega
  have h5 : ¬ b = 0 := by omega
  simp only [h1, h2, h5, if_false, e1, e2, e3, Option.bind_some]
  simp


end Go.Proofs.Ytpamcnodajjmlaa.Pure
