/- times by pieces: the first seven rounds. -/
import Derived.Test.YtpeminhnjdakiaaGreatMTa
namespace Go.Proofs.YtpeminhnjdakiaaGreat
open Go.RowKit Go.Ev

theorem t_a : chk 3 (listV RT 3 [cTa 0, cTa 1, cTa 2] aT conT.h) .norm (frL 113 stV []) (stE [] [0, 0, 0, 0, 0, 0, 0, 0, 0, 0, 0, 0, 0, 0] [0, 0, 0, 0, 0, 0, 0, 0, 0, 0, 0, 0, 0, 0]) 5 = true := by kernel_rfl
theorem t_b : chk 3 (RT.code 3 none (fstC (cTa 3)) (frL 113 stV []) (heapL (stE [] [0, 0, 0, 0, 0, 0, 0, 0, 0, 0, 0, 0, 0, 0] [0, 0, 0, 0, 0, 0, 0, 0, 0, 0, 0, 0, 0, 0]) 5)) .norm (stF 5 []) (stL 5 1 [] [0, 0, 0, 0, 0, 0, 0, 0, 0, 0, 0, 0, 0, 0] [0, 0, 0, 0, 0, 0, 0, 0, 0, 0, 0, 0, 0, 0]) 6 = true := by kernel_rfl
theorem t_1 : chk 3 (roundsV RT 3 cTl 7 (stF 5 []) (heapL (stL 5 1 [] [0, 0, 0, 0, 0, 0, 0, 0, 0, 0, 0, 0, 0, 0] [0, 0, 0, 0, 0, 0, 0, 0, 0, 0, 0, 0, 0, 0]) 6)) .norm (stF 2196 [2121, 2043, 1965, 1887, 1809, 1731, 1653, 1574, 1496, 1418, 1340, 1262, 1184, 1105, 1027, 949, 871, 793, 714, 636, 558, 480, 401, 323, 245, 166, 88, 9]) (stL 2196 8 [2121, 2043, 1965, 1887, 1809, 1731, 1653, 1574, 1496, 1418, 1340, 1262, 1184, 1105, 1027, 949, 871, 793, 714, 636, 558, 480, 401, 323, 245, 166, 88, 9] [0, 2, 2, 2, 2, 3, 4, 4, 0, 0, 0, 0, 0, 0] [0, 0, 0, 0, 0, 0, 0, 0, 0, 0, 0, 0, 0, 0]) 2197 = true := by kernel_rfl
end Go.Proofs.YtpeminhnjdakiaaGreat
