/- Cases of notes and steps. -/
import Derived.Test.YtpeminhnjdakiaaGreatMOc
namespace Go.Proofs.YtpeminhnjdakiaaGreat
open Go.RowKit Go.Ev

theorem r5_0 : restOk orcX 5 0 = true := by kernel_rfl
theorem r5_1 : restOk orcX 5 1 = true := by kernel_rfl
theorem r5_2 : restOk orcX 5 2 = true := by kernel_rfl
theorem r5_3 : restOk orcX 5 3 = true := by kernel_rfl
theorem r5_4 : restOk orcX 5 4 = true := by kernel_rfl
theorem r5_5 : restOk orcX 5 5 = true := by kernel_rfl
theorem r4_0 : restOk orcX 4 0 = true := by kernel_rfl
theorem r4_1 : restOk orcX 4 1 = true := by kernel_rfl
theorem r4_2 : restOk orcX 4 2 = true := by kernel_rfl
theorem r4_3 : restOk orcX 4 3 = true := by kernel_rfl
theorem r4_4 : restOk orcX 4 4 = true := by kernel_rfl
end Go.Proofs.YtpeminhnjdakiaaGreat
