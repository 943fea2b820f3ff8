/- Cases of notes and steps. -/
import Derived.Test.YtpeminhnjdakiaaGreatMOc
namespace Go.Proofs.YtpeminhnjdakiaaGreat
open Go.RowKit Go.Ev

theorem r7_0 : restOk orcX 7 0 = true := by kernel_rfl
theorem r7_1 : restOk orcX 7 1 = true := by kernel_rfl
theorem r7_2 : restOk orcX 7 2 = true := by kernel_rfl
theorem r7_3 : restOk orcX 7 3 = true := by kernel_rfl
end Go.Proofs.YtpeminhnjdakiaaGreat
