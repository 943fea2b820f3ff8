/- Tunes of chains, by what they hold. -/
import Derived.Test.YtpeminhnjdakiaaGreatMTa
namespace Go.Proofs.YtpeminhnjdakiaaGreat
open Go.RowKit Go.Ev

noncomputable def c7tu81 : Con := ⟨7, [.agg [.int .i64 (.ofNat 8), .slice 0 0 8 0 true]], [.row 25 (ints7 [0, 1, 1, 2, 2, 3, 3, 4, 4, 5, 5, 6, 6, 7, 7, 0]) false none], .tup [.slice 1 0 8 0 true, .int .i64 (.ofNat 0)], [.row 3 [.int .i64 (.ofNat 0), .int .i64 (.ofNat 1), .int .i64 (.ofNat 2), .int .i64 (.ofNat 3), .int .i64 (.ofNat 4), .int .i64 (.ofNat 5), .int .i64 (.ofNat 6), .int .i64 (.ofNat 7)] false none]⟩
theorem c7tu81_ok : conOk c7tu81 [657] = true := by kernel_rfl
theorem c7tu81_run : conRes c7tu81 [657] ((recN Tryz.prog orc0 100000).call c7tu81.m c7tu81.k c7tu81.args c7tu81.h) = true := by kernel_rfl
theorem c7tu81_orc {O : Orc} (hO : OrcOk Tryz.prog O) : OrcOk Tryz.prog (orcCon c7tu81 O) := orcCon_ok mixed plain hO orc0_ok c7tu81_ok c7tu81_run
noncomputable def c7tu83 : Con := ⟨7, [.agg [.int .i64 (.ofNat 8), .slice 0 0 8 0 true]], [.row 25 (ints7 [0, 3, 1, 4, 2, 5, 3, 6, 4, 7, 5, 0, 6, 1, 7, 2]) false none], .tup [.slice 1 0 8 0 true, .int .i64 (.ofNat 0)], [.row 3 [.int .i64 (.ofNat 0), .int .i64 (.ofNat 3), .int .i64 (.ofNat 6), .int .i64 (.ofNat 1), .int .i64 (.ofNat 4), .int .i64 (.ofNat 7), .int .i64 (.ofNat 2), .int .i64 (.ofNat 5)] false none]⟩
theorem c7tu83_ok : conOk c7tu83 [657] = true := by kernel_rfl
theorem c7tu83_run : conRes c7tu83 [657] ((recN Tryz.prog orc0 100000).call c7tu83.m c7tu83.k c7tu83.args c7tu83.h) = true := by kernel_rfl
theorem c7tu83_orc {O : Orc} (hO : OrcOk Tryz.prog O) : OrcOk Tryz.prog (orcCon c7tu83 O) := orcCon_ok mixed plain hO orc0_ok c7tu83_ok c7tu83_run
end Go.Proofs.YtpeminhnjdakiaaGreat
