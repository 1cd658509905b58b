/- Facts of the program that every row of this seat needs. No condition. -/
import Derived.Test.YtkefgpmnimpcdaaGreatDoorRows
import Derived.Test.YtkefgpmnimpcdaaGreatDoorJoi
set_option linter.unusedVariables false
namespace Go.Proofs.YtkefgpmnimpcdaaGreatDoor.Abs
open Go
theorem own : ownKnob Tryz.prog.godebug = none := by kernel_rfl
theorem shr_laid : laidOutB Tryz.prog = true := by kernel_rfl
theorem shr_maps : mapsRowed Tryz.prog = true := by kernel_rfl
theorem shr_stops : (Tryz.prog.stops == []) = true := by kernel_rfl
theorem shr_knobs : (Tryz.prog.stopKnobs == []) = true := by kernel_rfl
theorem shr_plain : (Rows.fnExactTokensOfRow.plainKeys == Tryz.prog.plainKeys) = true := by kernel_rfl
theorem shr_heard : Tryz.prog.stopsHeard = true := by kernel_rfl
theorem shr_enter : Tryz.prog.mayEnter = true := by kernel_rfl
theorem shr_lifted : (Rows.fnExactTokensOfRow.lifted == Tryz.prog.liftsFinal) = true := by kernel_rfl
theorem shr_make : (Tryz.prog.make == some Rows.fnExactTokensOfRow.make) = true := by kernel_rfl
end Go.Proofs.YtkefgpmnimpcdaaGreatDoor.Abs
