/- works04 of the top: all Works of the chapters 1 to 4. -/
import Derived.Test.YtpeminhnjdakiaaGreatMWk1
import Derived.Test.YtpeminhnjdakiaaGreatMWk2
import Derived.Test.YtpeminhnjdakiaaGreatMWk3
import Derived.Test.YtpeminhnjdakiaaGreatMWk4
namespace Go.Proofs.YtpeminhnjdakiaaGreat
open Go.RowKit Go.Ev

noncomputable def orcA : Orc := orcB 45 true (orcB 46 true (orcB 47 true (orcB 23 true orc0)))
theorem orcA_ok : OrcOk Tryz.prog orcA :=
  orcB_ok (orcB_ok (orcB_ok (orcB_ok orc0_ok Tryz.func23 rfl works04) Tryz.func47 rfl works03) Tryz.func46 rfl works02) Tryz.func45 rfl works01
theorem all04_run : saysB true ((recN Tryz.prog orcA 100000).call 0 8 [] hp0) = true := by kernel_rfl
theorem all04 (w : World) : Calls Tryz.prog 8 #[] w fun e w' => e = .returned (.bool true) ∧ Below w.heap.size w w' := closed_bool mixed plain orcA_ok .nil all04_run w
/-- .. as an oracle, with the places of a chain. -/
noncomputable def orcT : Orc := orcB 8 true (orcP orc0)
theorem orcT_ok : OrcOk Tryz.prog orcT := orcB_ok (orcP_ok orc0_ok) Tryz.func8 rfl all04
end Go.Proofs.YtpeminhnjdakiaaGreat
