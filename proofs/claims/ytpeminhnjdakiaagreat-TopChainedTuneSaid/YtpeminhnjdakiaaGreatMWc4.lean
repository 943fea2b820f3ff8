/- Works of chapter 4: its calls by what their arguments hold. -/
import Derived.Test.YtpeminhnjdakiaaGreatMBa
import Derived.Test.YtpeminhnjdakiaaGreatMEd
namespace Go.Proofs.YtpeminhnjdakiaaGreat
open Go.RowKit Go.Ev

noncomputable def ints4 (l : List Nat) : List AV := l.map fun x : Nat => AV.int .i64 (.ofNat x)
noncomputable def c4cnb : Con := ⟨6, [.agg [.int .i64 (.ofNat 3), .slice 0 0 4 0 true]], [.row 25 (ints4 [0, 1, 1, 2, 2, 0, 0, 2]) false none], .tup [.int .i64 (.ofNat 2), .int .i64 (.ofNat 0)], []⟩
theorem c4cnb_ok : conOk c4cnb [] = true := by kernel_rfl
theorem c4cnb_run : conRes c4cnb [] ((recN Tryz.prog orc0 100000).call c4cnb.m c4cnb.k c4cnb.args c4cnb.h) = true := by kernel_rfl
theorem c4cnb_orc {O : Orc} (hO : OrcOk Tryz.prog O) : OrcOk Tryz.prog (orcCon c4cnb O) := orcCon_ok mixed plain hO orc0_ok c4cnb_ok c4cnb_run
noncomputable def c4tub : Con := ⟨7, [.agg [.int .i64 (.ofNat 3), .slice 0 0 4 0 true]], [.row 25 (ints4 [0, 1, 1, 2, 2, 0, 0, 2]) false none], .tup [.slice 1 0 4 0 true, .int .i64 (.ofNat 0)], [.row 3 [.int .i64 (.ofNat 0), .int .i64 (.ofNat 1), .int .i64 (.ofNat 2), .int .i64 (.ofNat 3)] false none]⟩
theorem c4tub_ok : conOk c4tub [227] = true := by kernel_rfl
theorem c4tub_run : conRes c4tub [227] ((recN Tryz.prog orc0 100000).call c4tub.m c4tub.k c4tub.args c4tub.h) = true := by kernel_rfl
theorem c4tub_orc {O : Orc} (hO : OrcOk Tryz.prog O) : OrcOk Tryz.prog (orcCon c4tub O) := orcCon_ok mixed plain hO orc0_ok c4tub_ok c4tub_run
noncomputable def c4tuc : Con := ⟨7, [.agg [.int .i64 (.ofNat 4), .slice 0 0 4 0 true]], [.row 25 (ints4 [0, 1, 1, 0, 2, 3, 3, 2]) false none], .tup [.nils, .int .i64 (.ofNat 19)], []⟩
theorem c4tuc_ok : conOk c4tuc [] = true := by kernel_rfl
theorem c4tuc_run : conRes c4tuc [] ((recN Tryz.prog orc0 100000).call c4tuc.m c4tuc.k c4tuc.args c4tuc.h) = true := by kernel_rfl
theorem c4tuc_orc {O : Orc} (hO : OrcOk Tryz.prog O) : OrcOk Tryz.prog (orcCon c4tuc O) := orcCon_ok mixed plain hO orc0_ok c4tuc_ok c4tuc_run
noncomputable def c4stb : Con := ⟨53, [.agg [.int .i64 (.ofNat 3), .slice 0 0 4 0 true]], [.row 25 (ints4 [0, 1, 1, 2, 2, 0, 0, 2]) false none], .tup [.slice 1 0 1 1 false, .int .i64 (.ofNat 0)], [.row 3 [.int .i64 (.ofNat 0)] true none]⟩
theorem c4stb_ok : conOk c4stb [43] = true := by kernel_rfl
theorem c4stb_run : conRes c4stb [43] ((recN Tryz.prog orc0 100000).call c4stb.m c4stb.k c4stb.args c4stb.h) = true := by kernel_rfl
theorem c4stb_orc {O : Orc} (hO : OrcOk Tryz.prog O) : OrcOk Tryz.prog (orcCon c4stb O) := orcCon_ok mixed plain hO orc0_ok c4stb_ok c4stb_run
noncomputable def c4prc : Con := ⟨9, [.agg [.int .i64 (.ofNat 4), .slice 0 0 4 0 true]], [.row 25 (ints4 [0, 1, 1, 0, 2, 3, 3, 2]) false none], .tup [.int .i64 (.ofNat 2), .slice 1 0 2 0 true, .int .i64 (.ofNat 0)], [.row 3 [.int .i64 (.ofNat 0), .int .i64 (.ofNat 1)] false none]⟩
theorem c4prc_ok : conOk c4prc [41] = true := by kernel_rfl
theorem c4prc_run : conRes c4prc [41] ((recN Tryz.prog orc0 100000).call c4prc.m c4prc.k c4prc.args c4prc.h) = true := by kernel_rfl
theorem c4prc_orc {O : Orc} (hO : OrcOk Tryz.prog O) : OrcOk Tryz.prog (orcCon c4prc O) := orcCon_ok mixed plain hO orc0_ok c4prc_ok c4prc_run
noncomputable def c4agb : Con := ⟨55, [.agg [.int .i64 (.ofNat 3), .slice 0 0 4 0 true]], [.row 25 (ints4 [0, 1, 1, 2, 2, 0, 0, 2]) false none], .tup [.slice 1 0 4 4 false, .int .i64 (.ofNat 0)], [.row 3 [.int .i64 (.ofNat 0), .int .i64 (.ofNat 0), .int .i64 (.ofNat 1), .int .i64 (.ofNat 0)] true none]⟩
theorem c4agb_ok : conOk c4agb [24] = true := by kernel_rfl
theorem c4agb_run : conRes c4agb [24] ((recN Tryz.prog orc0 100000).call c4agb.m c4agb.k c4agb.args c4agb.h) = true := by kernel_rfl
theorem c4agb_orc {O : Orc} (hO : OrcOk Tryz.prog O) : OrcOk Tryz.prog (orcCon c4agb O) := orcCon_ok mixed plain hO orc0_ok c4agb_ok c4agb_run
noncomputable def c4heb : Con := ⟨57, [.agg [.int .i64 (.ofNat 3), .slice 0 0 4 0 true]], [.row 25 (ints4 [0, 1, 1, 2, 2, 0, 0, 2]) false none], .tup [.slice 1 0 3 0 true, .int .i64 (.ofNat 0)], [.row 3 [.int .i64 (.ofNat 1), .int .i64 (.ofNat 1), .int .i64 (.ofNat 0)] false none]⟩
theorem c4heb_ok : conOk c4heb [985] = true := by kernel_rfl
theorem c4heb_run : conRes c4heb [985] ((recN Tryz.prog orc0 100000).call c4heb.m c4heb.k c4heb.args c4heb.h) = true := by kernel_rfl
theorem c4heb_orc {O : Orc} (hO : OrcOk Tryz.prog O) : OrcOk Tryz.prog (orcCon c4heb O) := orcCon_ok mixed plain hO orc0_ok c4heb_ok c4heb_run
noncomputable def c4ca0 : Con := ⟨54, [.agg [.int .i64 (.ofNat 3), .slice 0 0 4 0 true], .slice 1 0 4 4 false], [.row 25 (ints4 [0, 1, 1, 2, 2, 0, 0, 2]) false none, .row 3 (ints4 [1, 1, 2, 0]) true none], .tup [.int .i64 (.ofNat 4), .int .i64 (.ofNat 0)], []⟩
theorem c4ca0_ok : conOk c4ca0 [] = true := by kernel_rfl
theorem c4ca0_run : conRes c4ca0 [] ((recN Tryz.prog orc0 100000).call c4ca0.m c4ca0.k c4ca0.args c4ca0.h) = true := by kernel_rfl
theorem c4ca0_orc {O : Orc} (hO : OrcOk Tryz.prog O) : OrcOk Tryz.prog (orcCon c4ca0 O) := orcCon_ok mixed plain hO orc0_ok c4ca0_ok c4ca0_run
noncomputable def orc4 (O : Orc) : Orc := orcCon c4cnb (orcCon c4tub (orcCon c4tuc (orcCon c4stb (orcCon c4prc (orcCon c4agb (orcCon c4heb (orcCon c4ca0 O)))))))
theorem orc4_ok {O : Orc} (hO : OrcOk Tryz.prog O) : OrcOk Tryz.prog (orc4 O) := c4cnb_orc (c4tub_orc (c4tuc_orc (c4stb_orc (c4prc_orc (c4agb_orc (c4heb_orc (c4ca0_orc hO)))))))
end Go.Proofs.YtpeminhnjdakiaaGreat
