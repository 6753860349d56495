/- A sum does not hang on the order of its parts, is not less than them, and what was added is taken away again; no condition. -/
import Derived.Test.YtpamcnodajjmlaaPNumBackx1
namespace Go.Proofs.Ytpamcnodajjmlaa.Pure
open Go.RowKit Go.Proofs.Ytpamcnodajjmlaa.PNumBack Go.Proofs.YtpamcnodajjmlaaW.PrintWords Go.Proofs.YtpamcnodajjmlaaW.PrintLast

theorem bdU {x : Int} (h : (Lit.int .u32 x).wf = true) : 0 ≤ x ∧ x ≤ 4294967295 := by
  simp [Lit.wf, IntKind.min, IntKind.max, IntKind.bits, IntKind.signed] at h; omega

theorem works_ok : watershedlaw01_works.f 2 = some true := by
  decide +kernel

theorem add_is (a b : Int) : num_Add.f 2 a b = some (if 1048576 < a ∨ 1048576 < b then (0, 1) else if (a + b) % 4294967296 ≤ 1048576 then ((a + b) % 4294967296, 0) else (0, 9)) := by
  unfold num_Add.f
  simp only [num_count.f, num_Add.j0, Option.bind_some]
  by_cases h1 : a ≤ 1048576
  · by_cases h2 : b ≤ 1048576
    · have h : ¬ (1048576 < a ∨ 1048576 < b) := by omega
      rw [if_neg h]
      by_cases h3 : (a + b) % 4294967296 ≤ 1048576 <;> simp [h1, h2, h3]
    · have h : 1048576 < a ∨ 1048576 < b := by omega
      simp [h1, h2, h]
  · have h : 1048576 < a ∨ 1048576 < b := by omega
    simp [h1, h]
theorem sub_is (a b : Int) (h1 : a ≤ 1048576) (h2 : b ≤ 1048576) (h3 : ¬ a < b) : num_Sub.f 1 a b = some ((a - b) % 4294967296, 0) := by
  unfold num_Sub.f
  simp [num_count.f, num_Sub.j0, h1, h2, h3]
theorem NumBack : watershedlaw01_NumBack.Pure := by
  intro a b ha hb
  obtain ⟨a0, a1⟩ := bdU ha
  obtain ⟨b0, b1⟩ := bdU hb
  clear ha hb
  refine ⟨2, ?_⟩
  unfold watershedlaw01_NumBack.f
  rw [works_ok, add_is, add_is]
  simp only [Option.bind_some, if_true, watershedlaw01_NumBack.j0]
  by_cases h : 1048576 < a ∨ 1048576 < b
  · have h' : 1048576 < b ∨ 1048576 < a := by omega
    simp [h, h']
  · have h' : ¬ (1048576 < b ∨ 1048576 < a) := by omega
    rw [if_neg h, if_neg h']
    have e1 : (a + b) % 4294967296 = a + b := by omega
    have e2 : (b + a) % 4294967296 = a + b := by omega
    rw [e1, e2]
    by_cases h3 : a + b ≤ 1048576
    · rw [if_pos h3]; simp only []; rw [sub_is (a + b) b h3 (by omega) (by omega)]
      have e3 : (a + b - b) % 4294967296 = a := by omega
      rw [e3]
      have h5 : a + b ≥ a := by omega
      have h6 : a + b ≥ b := by omega
      simp only [h5, h6, if_true, Option.bind_some]
      simp
    · rw [if_neg h3]; simp

end Go.Proofs.Ytpamcnodajjmlaa.Pure
