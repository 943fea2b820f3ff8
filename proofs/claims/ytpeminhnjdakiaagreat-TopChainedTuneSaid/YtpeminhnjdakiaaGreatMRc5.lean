/- Cases of notes and steps. -/
import Derived.Test.YtpeminhnjdakiaaGreatMOc
namespace Go.Proofs.YtpeminhnjdakiaaGreat
open Go.RowKit Go.Ev

theorem r0_0 : restOk orcX 0 0 = true := by kernel_rfl
theorem r1_0 : restOk orcX 1 0 = true := by kernel_rfl
theorem r1_1 : restOk orcX 1 1 = true := by kernel_rfl
theorem r2_0 : restOk orcX 2 0 = true := by kernel_rfl
theorem r2_1 : restOk orcX 2 1 = true := by kernel_rfl
theorem r2_2 : restOk orcX 2 2 = true := by kernel_rfl
theorem r3_0 : restOk orcX 3 0 = true := by kernel_rfl
theorem r3_1 : restOk orcX 3 1 = true := by kernel_rfl
theorem r3_2 : restOk orcX 3 2 = true := by kernel_rfl
theorem r3_3 : restOk orcX 3 3 = true := by kernel_rfl
end Go.Proofs.YtpeminhnjdakiaaGreat
