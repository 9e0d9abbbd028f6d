/- The tables of types and functions of this program, by number. -/
import Derived.Test.YtnlacfnniflkdaaGreatDoorK1
namespace Go.Proofs.Tryz
open Go.WeftN
set_option maxRecDepth 100000
theorem fnT_eq : fnT = Bt.of 10 (prog.funcs.toList.map fnOf) := by kernel_rfl
end Go.Proofs.Tryz
