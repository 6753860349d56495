/- Add and Sub of the program and of the reference give the same for any two numbers; no condition. -/
import Derived.Test.YtpamcnodajjmlaaPNumAddsx1
namespace Go.Proofs.Ytpamcnodajjmlaa.Pure
open Go.RowKit Go.Proofs.Ytpamcnodajjmlaa.PNumAdds Go.Proofs.YtpamcnodajjmlaaW.PrintWords Go.Proofs.YtpamcnodajjmlaaW.PrintLast

theorem bdU {x : Int} (h : (Lit.int .u32 x).wf = true) : 0 ≤ x ∧ x ≤ 4294967295 := by
  simp [Lit.wf, IntKind.min, IntKind.max, IntKind.bits, IntKind.signed] at h; omega

theorem NumAdds : watershedlaw01_NumAdds.Pure := by
  intro a b ha hb
  obtain ⟨a0, a1⟩ := bdU ha
  obtain ⟨b0, b1⟩ := bdU hb
  clear ha hb
  refine ⟨1, ?_⟩
  unfold watershedlaw01_NumAdds.f num_Add.f watershedref01_Add.f num_Sub.f watershedref01_Sub.f num_count.f
  simp only [Option.bind_some, num_Add.j0, watershedref01_Add.j0, num_Sub.j0, watershedref01_Sub.j0, num_count.f]
  by_cases h1 : a ≤ 1048576
  · by_cases h2 : b ≤ 1048576
    · have e1 : (a + b) % 4294967296 = a + b := by omega
      have e2 : (1048576 - b) % 4294967296 = 1048576 - b := by omega
      have h1' : ¬ a > 1048576 := by omega
      have h2' : ¬ b > 1048576 := by omega
      simp only [h1, h2, e1, e2, h1', h2', if_true, if_false, decide_true, decide_false, Bool.not_true, Bool.false_eq_true]
      by_cases h3 : a + b ≤ 1048576
      · have h3' : ¬ a > 1048576 - b := by omega
        by_cases h4 : a < b
        · simp [h3, h3', h4]
        · simp [h3, h3', h4]
      · have h3' : a > 1048576 - b := by omega
        by_cases h4 : a < b
        · simp [h3, h3', h4]
        · simp [h3, h3', h4]
    · have h1' : ¬ a > 1048576 := by omega
      have h2' : b > 1048576 := by omega
      simp [h1, h2, h1', h2']
  · have h1' : a > 1048576 := by omega
    simp [h1, h1']


end Go.Proofs.Ytpamcnodajjmlaa.Pure
