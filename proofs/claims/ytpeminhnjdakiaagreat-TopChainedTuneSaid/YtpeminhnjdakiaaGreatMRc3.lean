/- Cases of notes and steps. -/
import Derived.Test.YtpeminhnjdakiaaGreatMOc
namespace Go.Proofs.YtpeminhnjdakiaaGreat
open Go.RowKit Go.Ev

theorem r6_0 : restOk orcX 6 0 = true := by kernel_rfl
theorem r6_1 : restOk orcX 6 1 = true := by kernel_rfl
theorem r6_2 : restOk orcX 6 2 = true := by kernel_rfl
theorem r6_3 : restOk orcX 6 3 = true := by kernel_rfl
theorem r6_4 : restOk orcX 6 4 = true := by kernel_rfl
theorem r6_5 : restOk orcX 6 5 = true := by kernel_rfl
theorem r6_6 : restOk orcX 6 6 = true := by kernel_rfl
end Go.Proofs.YtpeminhnjdakiaaGreat
