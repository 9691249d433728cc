/- The evaluation of function 3, at letters within a box: its end is true. -/
import Derived.Test.YtgkjbkkbjlhafaaGreatEvTbl
import Derived.Test.YtgkjbkkbjlhafaaGreatEvFin
namespace Go.Ev.Fs
open Go Go.Proofs Go.Ev

theorem runC : evFun [(0, 15), (0, 15), (0, 15), (0, 15)] tbl wr0 60 Unit 3 [.leaf (.int .u8 (.lin 0 [(0, 16), (1, 1)])), .leaf (.int .u8 (.lin 0 [(2, 16), (3, 1)])), .leaf (.int .i16 (.lit 0))] M0 okK = some () := by kernel_rfl

end Go.Ev.Fs
