/- Tunes of chains, by what they hold. -/
import Derived.Test.YtpeminhnjdakiaaGreatMTa
namespace Go.Proofs.YtpeminhnjdakiaaGreat
open Go.RowKit Go.Ev

noncomputable def c7tu85 : Con := ⟨7, [.agg [.int .i64 (.ofNat 8), .slice 0 0 8 0 true]], [.row 25 (ints7 [0, 5, 1, 6, 2, 7, 3, 0, 4, 1, 5, 2, 6, 3, 7, 4]) false none], .tup [.slice 1 0 8 0 true, .int .i64 (.ofNat 0)], [.row 3 [.int .i64 (.ofNat 0), .int .i64 (.ofNat 5), .int .i64 (.ofNat 2), .int .i64 (.ofNat 7), .int .i64 (.ofNat 4), .int .i64 (.ofNat 1), .int .i64 (.ofNat 6), .int .i64 (.ofNat 3)] false none]⟩
theorem c7tu85_ok : conOk c7tu85 [657] = true := by kernel_rfl
theorem c7tu85_run : conRes c7tu85 [657] ((recN Tryz.prog orc0 100000).call c7tu85.m c7tu85.k c7tu85.args c7tu85.h) = true := by kernel_rfl
theorem c7tu85_orc {O : Orc} (hO : OrcOk Tryz.prog O) : OrcOk Tryz.prog (orcCon c7tu85 O) := orcCon_ok mixed plain hO orc0_ok c7tu85_ok c7tu85_run
noncomputable def c7tu87 : Con := ⟨7, [.agg [.int .i64 (.ofNat 8), .slice 0 0 8 0 true]], [.row 25 (ints7 [0, 7, 1, 0, 2, 1, 3, 2, 4, 3, 5, 4, 6, 5, 7, 6]) false none], .tup [.slice 1 0 8 0 true, .int .i64 (.ofNat 0)], [.row 3 [.int .i64 (.ofNat 0), .int .i64 (.ofNat 7), .int .i64 (.ofNat 6), .int .i64 (.ofNat 5), .int .i64 (.ofNat 4), .int .i64 (.ofNat 3), .int .i64 (.ofNat 2), .int .i64 (.ofNat 1)] false none]⟩
theorem c7tu87_ok : conOk c7tu87 [657] = true := by kernel_rfl
theorem c7tu87_run : conRes c7tu87 [657] ((recN Tryz.prog orc0 100000).call c7tu87.m c7tu87.k c7tu87.args c7tu87.h) = true := by kernel_rfl
theorem c7tu87_orc {O : Orc} (hO : OrcOk Tryz.prog O) : OrcOk Tryz.prog (orcCon c7tu87 O) := orcCon_ok mixed plain hO orc0_ok c7tu87_ok c7tu87_run
end Go.Proofs.YtpeminhnjdakiaaGreat
