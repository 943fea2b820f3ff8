/- Works of chapter 1. -/
import Derived.Test.YtpeminhnjdakiaaGreatMBa
namespace Go.Proofs.YtpeminhnjdakiaaGreat
open Go.RowKit Go.Ev

theorem works01_run : saysB true ((recN Tryz.prog (orcP orc0) 100000).call 0 45 [] hp0) = true := by kernel_rfl
theorem works01 (w : World) : Calls Tryz.prog 45 #[] w fun e w' => e = .returned (.bool true) ∧ Below w.heap.size w w' := closed_bool mixed plain (orcP_ok orc0_ok) .nil works01_run w
end Go.Proofs.YtpeminhnjdakiaaGreat
