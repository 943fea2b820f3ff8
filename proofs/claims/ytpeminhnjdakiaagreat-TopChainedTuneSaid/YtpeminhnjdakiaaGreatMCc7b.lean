/- Tunes of chains, by what they hold. -/
import Derived.Test.YtpeminhnjdakiaaGreatMTa
namespace Go.Proofs.YtpeminhnjdakiaaGreat
open Go.RowKit Go.Ev

noncomputable def c7tu74 : Con := ⟨7, [.agg [.int .i64 (.ofNat 7), .slice 0 0 7 0 true]], [.row 25 (ints7 [0, 4, 1, 5, 2, 6, 3, 0, 4, 1, 5, 2, 6, 3]) false none], .tup [.slice 1 0 7 0 true, .int .i64 (.ofNat 0)], [.row 3 [.int .i64 (.ofNat 0), .int .i64 (.ofNat 4), .int .i64 (.ofNat 1), .int .i64 (.ofNat 5), .int .i64 (.ofNat 2), .int .i64 (.ofNat 6), .int .i64 (.ofNat 3)] false none]⟩
theorem c7tu74_ok : conOk c7tu74 [537] = true := by kernel_rfl
theorem c7tu74_run : conRes c7tu74 [537] ((recN Tryz.prog orc0 100000).call c7tu74.m c7tu74.k c7tu74.args c7tu74.h) = true := by kernel_rfl
theorem c7tu74_orc {O : Orc} (hO : OrcOk Tryz.prog O) : OrcOk Tryz.prog (orcCon c7tu74 O) := orcCon_ok mixed plain hO orc0_ok c7tu74_ok c7tu74_run
noncomputable def c7tu75 : Con := ⟨7, [.agg [.int .i64 (.ofNat 7), .slice 0 0 7 0 true]], [.row 25 (ints7 [0, 5, 1, 6, 2, 0, 3, 1, 4, 2, 5, 3, 6, 4]) false none], .tup [.slice 1 0 7 0 true, .int .i64 (.ofNat 0)], [.row 3 [.int .i64 (.ofNat 0), .int .i64 (.ofNat 5), .int .i64 (.ofNat 3), .int .i64 (.ofNat 1), .int .i64 (.ofNat 6), .int .i64 (.ofNat 4), .int .i64 (.ofNat 2)] false none]⟩
theorem c7tu75_ok : conOk c7tu75 [537] = true := by kernel_rfl
theorem c7tu75_run : conRes c7tu75 [537] ((recN Tryz.prog orc0 100000).call c7tu75.m c7tu75.k c7tu75.args c7tu75.h) = true := by kernel_rfl
theorem c7tu75_orc {O : Orc} (hO : OrcOk Tryz.prog O) : OrcOk Tryz.prog (orcCon c7tu75 O) := orcCon_ok mixed plain hO orc0_ok c7tu75_ok c7tu75_run
noncomputable def c7tu76 : Con := ⟨7, [.agg [.int .i64 (.ofNat 7), .slice 0 0 7 0 true]], [.row 25 (ints7 [0, 6, 1, 0, 2, 1, 3, 2, 4, 3, 5, 4, 6, 5]) false none], .tup [.slice 1 0 7 0 true, .int .i64 (.ofNat 0)], [.row 3 [.int .i64 (.ofNat 0), .int .i64 (.ofNat 6), .int .i64 (.ofNat 5), .int .i64 (.ofNat 4), .int .i64 (.ofNat 3), .int .i64 (.ofNat 2), .int .i64 (.ofNat 1)] false none]⟩
theorem c7tu76_ok : conOk c7tu76 [537] = true := by kernel_rfl
theorem c7tu76_run : conRes c7tu76 [537] ((recN Tryz.prog orc0 100000).call c7tu76.m c7tu76.k c7tu76.args c7tu76.h) = true := by kernel_rfl
theorem c7tu76_orc {O : Orc} (hO : OrcOk Tryz.prog O) : OrcOk Tryz.prog (orcCon c7tu76 O) := orcCon_ok mixed plain hO orc0_ok c7tu76_ok c7tu76_run
end Go.Proofs.YtpeminhnjdakiaaGreat
