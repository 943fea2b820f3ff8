/- Cases of notes and steps. -/
import Derived.Test.YtpeminhnjdakiaaGreatMOc
namespace Go.Proofs.YtpeminhnjdakiaaGreat
open Go.RowKit Go.Ev

theorem r7_4 : restOk orcX 7 4 = true := by kernel_rfl
theorem r7_5 : restOk orcX 7 5 = true := by kernel_rfl
theorem r7_6 : restOk orcX 7 6 = true := by kernel_rfl
theorem r7_7 : restOk orcX 7 7 = true := by kernel_rfl
end Go.Proofs.YtpeminhnjdakiaaGreat
