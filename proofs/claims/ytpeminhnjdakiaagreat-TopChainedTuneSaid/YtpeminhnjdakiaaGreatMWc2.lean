/- Works of chapter 2: its calls by what their arguments hold. -/
import Derived.Test.YtpeminhnjdakiaaGreatMBa
import Derived.Test.YtpeminhnjdakiaaGreatMEd
namespace Go.Proofs.YtpeminhnjdakiaaGreat
open Go.RowKit Go.Ev

noncomputable def ints2 (l : List Nat) : List AV := l.map fun x : Nat => AV.int .i64 (.ofNat x)
def dW2 : List Nat := [1, 2, 3, 4, 1, 2, 5, 1, 2, 3, 4, 5]
noncomputable def c2fe1 : Con := ⟨95, [.agg [.int .i64 (.ofNat 3), .slice 0 0 12 12 false], .int .i64 1], [.row 3 (ints2 dW2) true none], .tup [.slice 1 0 9 9 false, .int .i64 (.ofNat 0)], [.row 3 [.int .i64 (.ofNat 0), .int .i64 (.ofNat 1), .int .i64 (.ofNat 2), .int .i64 (.ofNat 3), .int .i64 (.ofNat 4), .int .i64 (.ofNat 5), .int .i64 (.ofNat 6), .int .i64 (.ofNat 9), .int .i64 (.ofNat 10)] true none]⟩
theorem c2fe1_ok : conOk c2fe1 [93] = true := by kernel_rfl
theorem c2fe1_run : conRes c2fe1 [93] ((recN Tryz.prog orc0 100000).call c2fe1.m c2fe1.k c2fe1.args c2fe1.h) = true := by kernel_rfl
theorem c2fe1_orc {O : Orc} (hO : OrcOk Tryz.prog O) : OrcOk Tryz.prog (orcCon c2fe1 O) := orcCon_ok mixed plain hO orc0_ok c2fe1_ok c2fe1_run
noncomputable def c2fe2 : Con := ⟨95, [.agg [.int .i64 (.ofNat 3), .slice 0 0 12 12 false], .int .i64 2], [.row 3 (ints2 dW2) true none], .tup [.slice 1 0 10 10 false, .int .i64 (.ofNat 0)], [.row 3 [.int .i64 (.ofNat 0), .int .i64 (.ofNat 1), .int .i64 (.ofNat 2), .int .i64 (.ofNat 3), .int .i64 (.ofNat 4), .int .i64 (.ofNat 5), .int .i64 (.ofNat 6), .int .i64 (.ofNat 9), .int .i64 (.ofNat 10), .int .i64 (.ofNat 11)] true none]⟩
theorem c2fe2_ok : conOk c2fe2 [99] = true := by kernel_rfl
theorem c2fe2_run : conRes c2fe2 [99] ((recN Tryz.prog orc0 100000).call c2fe2.m c2fe2.k c2fe2.args c2fe2.h) = true := by kernel_rfl
theorem c2fe2_orc {O : Orc} (hO : OrcOk Tryz.prog O) : OrcOk Tryz.prog (orcCon c2fe2 O) := orcCon_ok mixed plain hO orc0_ok c2fe2_ok c2fe2_run
noncomputable def c2pl3 : Con := ⟨96, [.agg [.int .i64 (.ofNat 3), .slice 0 0 12 12 false], .int .i64 3], [.row 3 (ints2 dW2) true none], .tup [.slice 1 0 12 0 true, .int .i64 (.ofNat 0)], [.row 3 [.int .i64 (.ofNat 0), .int .i64 (.ofNat 0), .int .i64 (.ofNat 0), .int .i64 (.ofNat 3), .int .i64 (.ofNat 0), .int .i64 (.ofNat 0), .int .i64 (.ofNat 4), .int .i64 (.ofNat 0), .int .i64 (.ofNat 0), .int .i64 (.ofNat 1), .int .i64 (.ofNat 2), .int .i64 (.ofNat 0)] false none]⟩
theorem c2pl3_ok : conOk c2pl3 [84] = true := by kernel_rfl
theorem c2pl3_run : conRes c2pl3 [84] ((recN Tryz.prog orc0 100000).call c2pl3.m c2pl3.k c2pl3.args c2pl3.h) = true := by kernel_rfl
theorem c2pl3_orc {O : Orc} (hO : OrcOk Tryz.prog O) : OrcOk Tryz.prog (orcCon c2pl3 O) := orcCon_ok mixed plain hO orc0_ok c2pl3_ok c2pl3_run
noncomputable def c2fE1 : Con := ⟨95, [.agg [.int .i64 (.ofNat 4), .slice 0 0 12 12 false], .int .i64 1], [.row 3 (ints2 dW2) true none], .tup [.slice 1 0 10 10 false, .int .i64 (.ofNat 0)], [.row 3 [.int .i64 (.ofNat 0), .int .i64 (.ofNat 1), .int .i64 (.ofNat 2), .int .i64 (.ofNat 3), .int .i64 (.ofNat 6), .int .i64 (.ofNat 7), .int .i64 (.ofNat 8), .int .i64 (.ofNat 9), .int .i64 (.ofNat 10), .int .i64 (.ofNat 11)] true none]⟩
theorem c2fE1_ok : conOk c2fE1 [98] = true := by kernel_rfl
theorem c2fE1_run : conRes c2fE1 [98] ((recN Tryz.prog orc0 100000).call c2fE1.m c2fE1.k c2fE1.args c2fE1.h) = true := by kernel_rfl
theorem c2fE1_orc {O : Orc} (hO : OrcOk Tryz.prog O) : OrcOk Tryz.prog (orcCon c2fE1 O) := orcCon_ok mixed plain hO orc0_ok c2fE1_ok c2fE1_run
noncomputable def c2fw3 : Con := ⟨97, [.agg [.int .i64 (.ofNat 3), .slice 0 0 12 12 false]], [.row 3 (ints2 dW2) true none], .tup [.int .i64 (.ofNat 7), .int .i64 (.ofNat 0)], []⟩
theorem c2fw3_ok : conOk c2fw3 [] = true := by kernel_rfl
theorem c2fw3_run : conRes c2fw3 [] ((recN Tryz.prog orc0 100000).call c2fw3.m c2fw3.k c2fw3.args c2fw3.h) = true := by kernel_rfl
theorem c2fw3_orc {O : Orc} (hO : OrcOk Tryz.prog O) : OrcOk Tryz.prog (orcCon c2fw3 O) := orcCon_ok mixed plain hO orc0_ok c2fw3_ok c2fw3_run
noncomputable def c2fw4 : Con := ⟨97, [.agg [.int .i64 (.ofNat 4), .slice 0 0 12 12 false]], [.row 3 (ints2 dW2) true none], .tup [.int .i64 (.ofNat 6), .int .i64 (.ofNat 0)], []⟩
theorem c2fw4_ok : conOk c2fw4 [] = true := by kernel_rfl
theorem c2fw4_run : conRes c2fw4 [] ((recN Tryz.prog orc0 100000).call c2fw4.m c2fw4.k c2fw4.args c2fw4.h) = true := by kernel_rfl
theorem c2fw4_orc {O : Orc} (hO : OrcOk Tryz.prog O) : OrcOk Tryz.prog (orcCon c2fw4 O) := orcCon_ok mixed plain hO orc0_ok c2fw4_ok c2fw4_run
noncomputable def c2cp0 : Con := ⟨98, [.agg [.int .i64 (.ofNat 3), .slice 0 0 12 12 false], .slice 1 0 12 12 false], [.row 3 (ints2 dW2) true none, .row 3 (ints2 [0, 0, 0, 3, 0, 0, 4, 0, 0, 2, 1, 0]) true none], .tup [.int .i64 (.ofNat 7), .int .i64 (.ofNat 0)], []⟩
theorem c2cp0_ok : conOk c2cp0 [] = true := by kernel_rfl
theorem c2cp0_run : conRes c2cp0 [] ((recN Tryz.prog orc0 100000).call c2cp0.m c2cp0.k c2cp0.args c2cp0.h) = true := by kernel_rfl
theorem c2cp0_orc {O : Orc} (hO : OrcOk Tryz.prog O) : OrcOk Tryz.prog (orcCon c2cp0 O) := orcCon_ok mixed plain hO orc0_ok c2cp0_ok c2cp0_run
noncomputable def c2cp1 : Con := ⟨98, [.agg [.int .i64 (.ofNat 3), .slice 0 0 12 12 false], .slice 1 0 12 12 false], [.row 3 (ints2 dW2) true none, .row 3 (ints2 [0, 0, 0, 5, 0, 0, 4, 0, 0, 1, 2, 0]) true none], .tup [.int .i64 (.ofNat 0), .int .i64 (.ofNat 18)], []⟩
theorem c2cp1_ok : conOk c2cp1 [] = true := by kernel_rfl
theorem c2cp1_run : conRes c2cp1 [] ((recN Tryz.prog orc0 100000).call c2cp1.m c2cp1.k c2cp1.args c2cp1.h) = true := by kernel_rfl
theorem c2cp1_orc {O : Orc} (hO : OrcOk Tryz.prog O) : OrcOk Tryz.prog (orcCon c2cp1 O) := orcCon_ok mixed plain hO orc0_ok c2cp1_ok c2cp1_run
noncomputable def c2cp2 : Con := ⟨98, [.agg [.int .i64 (.ofNat 3), .slice 0 0 12 12 false], .slice 1 0 12 12 false], [.row 3 (ints2 dW2) true none, .row 3 (ints2 [0, 0, 0, 3, 1, 0, 4, 0, 0, 1, 2, 0]) true none], .tup [.int .i64 (.ofNat 0), .int .i64 (.ofNat 16)], []⟩
theorem c2cp2_ok : conOk c2cp2 [] = true := by kernel_rfl
theorem c2cp2_run : conRes c2cp2 [] ((recN Tryz.prog orc0 100000).call c2cp2.m c2cp2.k c2cp2.args c2cp2.h) = true := by kernel_rfl
theorem c2cp2_orc {O : Orc} (hO : OrcOk Tryz.prog O) : OrcOk Tryz.prog (orcCon c2cp2 O) := orcCon_ok mixed plain hO orc0_ok c2cp2_ok c2cp2_run
noncomputable def c2ct1 : Con := ⟨100, [.agg [.int .i64 (.ofNat 3), .slice 0 0 12 12 false], .slice 1 0 1 1 false], [.row 3 (ints2 dW2) true none, .row 3 (ints2 [6]) true none], .tup [.int .i64 (.ofNat 7), .int .i64 (.ofNat 0)], []⟩
theorem c2ct1_ok : conOk c2ct1 [] = true := by kernel_rfl
theorem c2ct1_run : conRes c2ct1 [] ((recN Tryz.prog orc0 100000).call c2ct1.m c2ct1.k c2ct1.args c2ct1.h) = true := by kernel_rfl
theorem c2ct1_orc {O : Orc} (hO : OrcOk Tryz.prog O) : OrcOk Tryz.prog (orcCon c2ct1 O) := orcCon_ok mixed plain hO orc0_ok c2ct1_ok c2ct1_run
noncomputable def c2ct2 : Con := ⟨100, [.agg [.int .i64 (.ofNat 3), .slice 0 0 12 12 false], .slice 1 0 2 2 false], [.row 3 (ints2 dW2) true none, .row 3 (ints2 [6, 6]) true none], .tup [.int .i64 (.ofNat 0), .int .i64 (.ofNat 3)], []⟩
theorem c2ct2_ok : conOk c2ct2 [] = true := by kernel_rfl
theorem c2ct2_run : conRes c2ct2 [] ((recN Tryz.prog orc0 100000).call c2ct2.m c2ct2.k c2ct2.args c2ct2.h) = true := by kernel_rfl
theorem c2ct2_orc {O : Orc} (hO : OrcOk Tryz.prog O) : OrcOk Tryz.prog (orcCon c2ct2 O) := orcCon_ok mixed plain hO orc0_ok c2ct2_ok c2ct2_run
noncomputable def c2dep : Con := ⟨103, [.agg [.int .i64 (.ofNat 3), .slice 0 0 12 12 false]], [.row 3 (ints2 dW2) true none], .tup [.slice 1 0 12 0 true, .int .i64 (.ofNat 0)], [.row 3 [.int .i64 (.ofNat 0), .int .i64 (.ofNat 0), .int .i64 (.ofNat 0), .int .i64 (.ofNat 0), .int .i64 (.ofNat 4), .int .i64 (.ofNat 4), .int .i64 (.ofNat 0), .int .i64 (.ofNat 3), .int .i64 (.ofNat 3), .int .i64 (.ofNat 5), .int .i64 (.ofNat 5), .int .i64 (.ofNat 5)] false none]⟩
theorem c2dep_ok : conOk c2dep [737] = true := by kernel_rfl
theorem c2dep_run : conRes c2dep [737] ((recN Tryz.prog orc0 100000).call c2dep.m c2dep.k c2dep.args c2dep.h) = true := by kernel_rfl
theorem c2dep_orc {O : Orc} (hO : OrcOk Tryz.prog O) : OrcOk Tryz.prog (orcCon c2dep O) := orcCon_ok mixed plain hO orc0_ok c2dep_ok c2dep_run
noncomputable def orc2 (O : Orc) : Orc := orcCon c2fe1 (orcCon c2fe2 (orcCon c2pl3 (orcCon c2fE1 (orcCon c2fw3 (orcCon c2fw4 (orcCon c2cp0 (orcCon c2cp1 (orcCon c2cp2 (orcCon c2ct1 (orcCon c2ct2 (orcCon c2dep O)))))))))))
theorem orc2_ok {O : Orc} (hO : OrcOk Tryz.prog O) : OrcOk Tryz.prog (orc2 O) := c2fe1_orc (c2fe2_orc (c2pl3_orc (c2fE1_orc (c2fw3_orc (c2fw4_orc (c2cp0_orc (c2cp1_orc (c2cp2_orc (c2ct1_orc (c2ct2_orc (c2dep_orc hO)))))))))))
end Go.Proofs.YtpeminhnjdakiaaGreat
