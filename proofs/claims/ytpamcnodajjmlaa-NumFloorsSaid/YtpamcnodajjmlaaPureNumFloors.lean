/- Floor of the program and of the reference give the same for any two numbers; no condition. -/
import Derived.Test.YtpamcnodajjmlaaPNumFloorsx1
namespace Go.Proofs.Ytpamcnodajjmlaa.Pure
open Go.RowKit Go.Proofs.Ytpamcnodajjmlaa.PNumFloors Go.Proofs.YtpamcnodajjmlaaW.PrintWords Go.Proofs.YtpamcnodajjmlaaW.PrintLast


theorem NumFloors : watershedlaw01_NumFloors.Pure := by
  intro a b _ _
  unfold watershedlaw01_NumFloors.f num_Floor.f watershedref01_Floor.f
  by_cases h : b < 1
  · simp [h]
  · have h0 : ¬ b = 0 := by omega
    by_cases h1 : Int.tmod a b < 0
    · simp [h, h0, h1]
    · simp [h, h0, h1]


end Go.Proofs.Ytpamcnodajjmlaa.Pure
