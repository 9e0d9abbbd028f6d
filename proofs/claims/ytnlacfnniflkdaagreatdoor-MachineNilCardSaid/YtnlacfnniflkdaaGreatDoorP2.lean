/- MachineNil: the given statement, and its card. -/
import Derived.Test.YtnlacfnniflkdaaGreatDoorP1
namespace Go.Proofs.YtnlacfnniflkdaaGreatDoor
open Go.ChangeShapes Go.WideShapes Go.ChangeAt Go.RowKit Go.WeftN Go.Proofs.Tryz
set_option maxRecDepth 100000

theorem row_closed : joinedFacts Tryz.prog 3 Tryz.f3 Rows.machineNilSpec Rows.machineNilRow = true := by kernel_rfl
theorem row_inst : Tryz.f3.isInstance Tryz.prog Rows.machineNilRow.origin Rows.machineNilRow.targs := of_decide_eq_true (by kernel_rfl)
theorem row_wrap : Tryz.f3.isWrapper Tryz.prog Rows.machineNilRow.wrapper Rows.machineNilRow.mainSum := by unfold Func.isWrapper; first | (rw [if_pos (by decide +kernel)]; kernel_rfl) | (rw [if_neg (by decide +kernel)]; exact ⟨rfl, rfl⟩)
end Go.Proofs.YtnlacfnniflkdaaGreatDoor
