/- Works of chapter 2. -/
import Derived.Test.YtpeminhnjdakiaaGreatMWc2
import Derived.Test.YtpeminhnjdakiaaGreatMTm5
import Derived.Test.YtpeminhnjdakiaaGreatMSb
namespace Go.Proofs.YtpeminhnjdakiaaGreat
open Go.RowKit Go.Ev

noncomputable def orcW2 : Orc := orc2 (orcCon conT (orcK orc0))
theorem orcW2_ok : OrcOk Tryz.prog orcW2 := orc2_ok (conT_orc (orcK_ok orc0_ok))
theorem works02_run : saysB true ((recN Tryz.prog orcW2 100000).call 0 46 [] hp0) = true := by kernel_rfl
theorem works02 (w : World) : Calls Tryz.prog 46 #[] w fun e w' => e = .returned (.bool true) ∧ Below w.heap.size w w' := closed_bool mixed plain orcW2_ok .nil works02_run w
end Go.Proofs.YtpeminhnjdakiaaGreat
