/- Tunes of chains, by what they hold. -/
import Derived.Test.YtpeminhnjdakiaaGreatMTa
namespace Go.Proofs.YtpeminhnjdakiaaGreat
open Go.RowKit Go.Ev

noncomputable def c7tu71 : Con := ⟨7, [.agg [.int .i64 (.ofNat 7), .slice 0 0 7 0 true]], [.row 25 (ints7 [0, 1, 1, 2, 2, 3, 3, 4, 4, 5, 5, 6, 6, 0]) false none], .tup [.slice 1 0 7 0 true, .int .i64 (.ofNat 0)], [.row 3 [.int .i64 (.ofNat 0), .int .i64 (.ofNat 1), .int .i64 (.ofNat 2), .int .i64 (.ofNat 3), .int .i64 (.ofNat 4), .int .i64 (.ofNat 5), .int .i64 (.ofNat 6)] false none]⟩
theorem c7tu71_ok : conOk c7tu71 [537] = true := by kernel_rfl
theorem c7tu71_run : conRes c7tu71 [537] ((recN Tryz.prog orc0 100000).call c7tu71.m c7tu71.k c7tu71.args c7tu71.h) = true := by kernel_rfl
theorem c7tu71_orc {O : Orc} (hO : OrcOk Tryz.prog O) : OrcOk Tryz.prog (orcCon c7tu71 O) := orcCon_ok mixed plain hO orc0_ok c7tu71_ok c7tu71_run
noncomputable def c7tu72 : Con := ⟨7, [.agg [.int .i64 (.ofNat 7), .slice 0 0 7 0 true]], [.row 25 (ints7 [0, 2, 1, 3, 2, 4, 3, 5, 4, 6, 5, 0, 6, 1]) false none], .tup [.slice 1 0 7 0 true, .int .i64 (.ofNat 0)], [.row 3 [.int .i64 (.ofNat 0), .int .i64 (.ofNat 2), .int .i64 (.ofNat 4), .int .i64 (.ofNat 6), .int .i64 (.ofNat 1), .int .i64 (.ofNat 3), .int .i64 (.ofNat 5)] false none]⟩
theorem c7tu72_ok : conOk c7tu72 [537] = true := by kernel_rfl
theorem c7tu72_run : conRes c7tu72 [537] ((recN Tryz.prog orc0 100000).call c7tu72.m c7tu72.k c7tu72.args c7tu72.h) = true := by kernel_rfl
theorem c7tu72_orc {O : Orc} (hO : OrcOk Tryz.prog O) : OrcOk Tryz.prog (orcCon c7tu72 O) := orcCon_ok mixed plain hO orc0_ok c7tu72_ok c7tu72_run
noncomputable def c7tu73 : Con := ⟨7, [.agg [.int .i64 (.ofNat 7), .slice 0 0 7 0 true]], [.row 25 (ints7 [0, 3, 1, 4, 2, 5, 3, 6, 4, 0, 5, 1, 6, 2]) false none], .tup [.slice 1 0 7 0 true, .int .i64 (.ofNat 0)], [.row 3 [.int .i64 (.ofNat 0), .int .i64 (.ofNat 3), .int .i64 (.ofNat 6), .int .i64 (.ofNat 2), .int .i64 (.ofNat 5), .int .i64 (.ofNat 1), .int .i64 (.ofNat 4)] false none]⟩
theorem c7tu73_ok : conOk c7tu73 [537] = true := by kernel_rfl
theorem c7tu73_run : conRes c7tu73 [537] ((recN Tryz.prog orc0 100000).call c7tu73.m c7tu73.k c7tu73.args c7tu73.h) = true := by kernel_rfl
theorem c7tu73_orc {O : Orc} (hO : OrcOk Tryz.prog O) : OrcOk Tryz.prog (orcCon c7tu73 O) := orcCon_ok mixed plain hO orc0_ok c7tu73_ok c7tu73_run
end Go.Proofs.YtpeminhnjdakiaaGreat
