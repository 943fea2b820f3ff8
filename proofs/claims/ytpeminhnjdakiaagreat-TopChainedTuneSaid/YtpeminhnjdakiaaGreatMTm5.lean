/- times by pieces: the whole. -/
import Derived.Test.YtpeminhnjdakiaaGreatMTm1
import Derived.Test.YtpeminhnjdakiaaGreatMTm2
import Derived.Test.YtpeminhnjdakiaaGreatMTm3
import Derived.Test.YtpeminhnjdakiaaGreatMTm4
namespace Go.Proofs.YtpeminhnjdakiaaGreat
open Go.RowKit Go.Ev

theorem body_T : Tryz.f162.body = some cT := by kernel_rfl
theorem conT_orc {O : Orc} (hO : OrcOk Tryz.prog O) : OrcOk Tryz.prog (orcCon conT O) := by
  cases hr : resT with
  | bad => have := t_res; rw [hr] at this; cases this
  | ok v0 hs =>
    have hc := t_res
    rw [hr] at hc
    refine orcCon_okS hO t_ok ⟨Tryz.f162, cT, Tryz.func162, body_T⟩ ?_ hc
    refine seg_end okT Tryz.func162 body_T (d := cTr) hr fun o a' h1 s => ?_
    rw [cT_eq]
    refine chk_list okT t_a (seg_seq (seg_seq (chk_code okT t_b) (seg_block (seg_loop (k := 1 + 1 + 2 + 3 + 7) ?_))) s)
    exact chk_rounds okT t_1 (chk_rounds okT t_2 (chk_rounds okT t_3 (chk_rounds okT t_4 (seg_last (by simp) (chk_code okT t_x)))))

end Go.Proofs.YtpeminhnjdakiaaGreat
