/- What is known of calls, together. -/
import Derived.Test.YtpeminhnjdakiaaGreatMCc7a
import Derived.Test.YtpeminhnjdakiaaGreatMCc7b
import Derived.Test.YtpeminhnjdakiaaGreatMCc8a
import Derived.Test.YtpeminhnjdakiaaGreatMCc8b
import Derived.Test.YtpeminhnjdakiaaGreatMWa4
import Derived.Test.YtpeminhnjdakiaaGreatMTa
namespace Go.Proofs.YtpeminhnjdakiaaGreat
open Go.RowKit Go.Ev

noncomputable def orcX : Orc := orcCon c7tu71 (orcCon c7tu72 (orcCon c7tu73 (orcCon c7tu74 (orcCon c7tu75 (orcCon c7tu76 (orcCon c7tu81 (orcCon c7tu83 (orcCon c7tu85 (orcCon c7tu87 orcT)))))))))
theorem orcX_ok : OrcOk Tryz.prog orcX := c7tu71_orc (c7tu72_orc (c7tu73_orc (c7tu74_orc (c7tu75_orc (c7tu76_orc (c7tu81_orc (c7tu83_orc (c7tu85_orc (c7tu87_orc orcT_ok)))))))))
end Go.Proofs.YtpeminhnjdakiaaGreat
