/- All cases. -/
import Derived.Test.YtpeminhnjdakiaaGreatMRc1
import Derived.Test.YtpeminhnjdakiaaGreatMRc2
import Derived.Test.YtpeminhnjdakiaaGreatMRc3
import Derived.Test.YtpeminhnjdakiaaGreatMRc4
import Derived.Test.YtpeminhnjdakiaaGreatMRc5
namespace Go.Proofs.YtpeminhnjdakiaaGreat
open Go.RowKit Go.Ev

theorem rest_all : ∀ m k, m < 8 → k ≤ m → restOk orcX m k = true := by
  intro m k hm hk
  have hm : m = 0 ∨ m = 1 ∨ m = 2 ∨ m = 3 ∨ m = 4 ∨ m = 5 ∨ m = 6 ∨ m = 7 := by omega
  rcases hm with rfl | rfl | rfl | rfl | rfl | rfl | rfl | rfl
  · obtain rfl : k = 0 := by omega
    exact r0_0
  · have hk : k = 0 ∨ k = 1 := by omega
    rcases hk with rfl | rfl
    · exact r1_0
    · exact r1_1
  · have hk : k = 0 ∨ k = 1 ∨ k = 2 := by omega
    rcases hk with rfl | rfl | rfl
    · exact r2_0
    · exact r2_1
    · exact r2_2
  · have hk : k = 0 ∨ k = 1 ∨ k = 2 ∨ k = 3 := by omega
    rcases hk with rfl | rfl | rfl | rfl
    · exact r3_0
    · exact r3_1
    · exact r3_2
    · exact r3_3
  · have hk : k = 0 ∨ k = 1 ∨ k = 2 ∨ k = 3 ∨ k = 4 := by omega
    rcases hk with rfl | rfl | rfl | rfl | rfl
    · exact r4_0
    · exact r4_1
    · exact r4_2
    · exact r4_3
    · exact r4_4
  · have hk : k = 0 ∨ k = 1 ∨ k = 2 ∨ k = 3 ∨ k = 4 ∨ k = 5 := by omega
    rcases hk with rfl | rfl | rfl | rfl | rfl | rfl
    · exact r5_0
    · exact r5_1
    · exact r5_2
    · exact r5_3
    · exact r5_4
    · exact r5_5
  · have hk : k = 0 ∨ k = 1 ∨ k = 2 ∨ k = 3 ∨ k = 4 ∨ k = 5 ∨ k = 6 := by omega
    rcases hk with rfl | rfl | rfl | rfl | rfl | rfl | rfl
    · exact r6_0
    · exact r6_1
    · exact r6_2
    · exact r6_3
    · exact r6_4
    · exact r6_5
    · exact r6_6
  · have hk : k = 0 ∨ k = 1 ∨ k = 2 ∨ k = 3 ∨ k = 4 ∨ k = 5 ∨ k = 6 ∨ k = 7 := by omega
    rcases hk with rfl | rfl | rfl | rfl | rfl | rfl | rfl | rfl
    · exact r7_0
    · exact r7_1
    · exact r7_2
    · exact r7_3
    · exact r7_4
    · exact r7_5
    · exact r7_6
    · exact r7_7
end Go.Proofs.YtpeminhnjdakiaaGreat
