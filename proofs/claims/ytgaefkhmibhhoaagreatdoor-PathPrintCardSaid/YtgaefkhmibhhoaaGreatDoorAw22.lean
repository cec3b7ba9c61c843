/- A part of the proof that rubriclaw22.PathPrint returns true for every path. -/
import Derived.Test.YtgaefkhmibhhoaaGreatDoorAxExt
import Derived.Test.YtgaefkhmibhhoaaGreatDoorProg
set_option linter.unusedSimpArgs false
set_option linter.unusedVariables false
namespace Go.AX
open Go Go.Proofs
theorem tryz_nok : nokB Tryz.prog = true := by kernel_rfl
theorem tryz_xok : xokB Tryz.prog = true := by kernel_rfl
theorem tryz_mixed : Tryz.prog.follows .mixedOrders = true := by kernel_rfl
theorem tryz_awake : awakeG Tryz.prog 4000 9 = true := by kernel_rfl
end Go.AX
