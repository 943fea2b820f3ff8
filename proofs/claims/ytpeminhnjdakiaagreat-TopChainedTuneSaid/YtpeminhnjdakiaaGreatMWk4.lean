/- Works of chapter 4. -/
import Derived.Test.YtpeminhnjdakiaaGreatMWc4
namespace Go.Proofs.YtpeminhnjdakiaaGreat
open Go.RowKit Go.Ev

theorem works04_run : saysB true ((recN Tryz.prog (orc4 orc0) 100000).call 0 23 [] hp0) = true := by kernel_rfl
theorem works04 (w : World) : Calls Tryz.prog 23 #[] w fun e w' => e = .returned (.bool true) ∧ Below w.heap.size w w' := closed_bool mixed plain (orc4_ok orc0_ok) .nil works04_run w
end Go.Proofs.YtpeminhnjdakiaaGreat
