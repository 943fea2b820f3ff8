/- Works of chapter 3. -/
import Derived.Test.YtpeminhnjdakiaaGreatMBa
namespace Go.Proofs.YtpeminhnjdakiaaGreat
open Go.RowKit Go.Ev

theorem works03_run : saysB true ((recN Tryz.prog orc0 100000).call 0 47 [] hp0) = true := by kernel_rfl
theorem works03 (w : World) : Calls Tryz.prog 47 #[] w fun e w' => e = .returned (.bool true) ∧ Below w.heap.size w w' := closed_bool mixed plain orc0_ok .nil works03_run w
end Go.Proofs.YtpeminhnjdakiaaGreat
