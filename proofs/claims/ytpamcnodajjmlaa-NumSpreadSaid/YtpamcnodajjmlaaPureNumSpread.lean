/- Each key goes to just one of several parts, always the same; with one part all go to the first; no condition. -/
import Derived.Test.YtpamcnodajjmlaaPNumSpreadx1
namespace Go.Proofs.Ytpamcnodajjmlaa.Pure
open Go.RowKit Go.Proofs.Ytpamcnodajjmlaa.PNumSpread Go.Proofs.YtpamcnodajjmlaaW.PrintWords Go.Proofs.YtpamcnodajjmlaaW.PrintLast

theorem bdI {x : Int} (h : (Lit.int .i64 x).wf = true) : -9223372036854775808 ≤ x ∧ x ≤ 9223372036854775807 := by
  simp [Lit.wf, IntKind.min, IntKind.max, IntKind.bits, IntKind.signed] at h; omega

theorem works_ok : watershedlaw01_works.f 1 = some true := by
  decide +kernel

theorem mix_bd (a m : Int) (h : num_Mix.f a = some m) : 0 ≤ m ∧ m < 4294967296 := by
  unfold num_Mix.f at h
  simp only [Option.some.injEq] at h
  rw [← h]
  exact ⟨Int.emod_nonneg _ (by omega), Int.emod_lt_of_pos _ (by omega)⟩
theorem mix_some (a : Int) : ∃ m, num_Mix.f a = some m := ⟨_, rfl⟩

theorem NumSpread : watershedlaw01_NumSpread.Pure := by
  intro a b ha hb
  obtain ⟨b0, b1⟩ := bdI hb
  clear ha hb
  refine ⟨1, ?_⟩
  unfold watershedlaw01_NumSpread.f
  rw [works_ok]
  simp only [Option.bind_some, if_true]
  have hn : ∃ n : Int, wrap64 (1 + (wrap64 (Int.tmod (IntKind.u64.wrap b) 64))) = n ∧ 1 ≤ n ∧ n ≤ 64 := by
    have h0 : 0 ≤ IntKind.u64.wrap b := by rw [IntKind.wrap_u64]; omega
    rw [Int.tmod_eq_emod_of_nonneg h0]
    generalize IntKind.u64.wrap b = u
    refine ⟨1 + u % 64, ?_, by omega, by omega⟩
    unfold wrap64; omega
  obtain ⟨n, hn, n0, n1⟩ := hn
  rw [hn]
  obtain ⟨m, hm⟩ := mix_some a
  obtain ⟨m0, m1⟩ := mix_bd a m hm
  unfold num_Part.f
  rw [hm]
  have h1 : ¬ n < 1 := by omega
  have h2 : ¬ n > 64 := by omega
  have e1 : IntKind.u64.wrap n = n := by rw [IntKind.wrap_u64]; omega
  have e2 : IntKind.u64.wrap m = m := by rw [IntKind.wrap_u64]; omega
  have e4 : IntKind.u64.wrap 1 = 1 := by rw [IntKind.wrap_u64]; omega
  have e3 : n % 4294967296 = n := by omega
  have h5 : ¬ n = 0 := by omega
  have e6 : Int.tmod m n = m % n := Int.tmod_eq_emod_of_nonneg m0
  have e7 : Int.tmod m 1 = m % 1 := Int.tmod_eq_emod_of_nonneg m0
  have r0 : 0 ≤ m % n := Int.emod_nonneg _ h5
  have r1 : m % n < n := Int.emod_lt_of_pos _ (by omega)
  have e8 : wrap64 (m % n) = m % n := by unfold wrap64; omega
  have e9 : wrap64 (m % 1) = 0 := by unfold wrap64; omega

  have e10 : m % n % 4294967296 = m % n := by omega
  simp only [h1, h2, h5, if_false, e1, e2, e4, e6, e7, e8, e9, Option.bind_some]
  simp [r0, r1, e3, h5]
  rw [e10]; exact e6.symm


end Go.Proofs.Ytpamcnodajjmlaa.Pure
