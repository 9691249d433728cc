/- The evaluation of function 4, at letters within a box: its end is true. -/
import Derived.Test.YtgkjbkkbjlhafaaGreatEvTbl
import Derived.Test.YtgkjbkkbjlhafaaGreatEvFin
namespace Go.Ev.Fs
open Go Go.Proofs Go.Ev

theorem runR2 : evFun [(0, 15), (0, 15), (0, 15), (0, 15), (0, 50)] tbl wr0 60 Unit 4 [.leaf (.int .u8 (.lin 0 [(0, 16), (1, 1)])), .leaf (.int .u8 (.lin 0 [(2, 16), (3, 1)])), .leaf (.int .u8 (.lin 2 [(4, 5)]))] M0 okK = some () := by kernel_rfl

end Go.Ev.Fs
