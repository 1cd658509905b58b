/- Facts of the program that every row of this seat needs. No condition. -/
import Derived.Test.YthagllbnkbahnaaDoorRows
import Derived.Test.YthagllbnkbahnaaDoorJoi
set_option linter.unusedVariables false
namespace Go.Proofs.YthagllbnkbahnaaDoor.Abs
open Go
theorem own : ownKnob Tryd.prog.godebug = none := by kernel_rfl
theorem shr_laid : laidOutB Tryd.prog = true := by kernel_rfl
theorem shr_maps : mapsRowed Tryd.prog = true := by kernel_rfl
theorem shr_stops : (Tryd.prog.stops == []) = true := by kernel_rfl
theorem shr_knobs : (Tryd.prog.stopKnobs == []) = true := by kernel_rfl
theorem shr_plain : (Rows.fnExactReadJsonRow.plainKeys == Tryd.prog.plainKeys) = true := by kernel_rfl
theorem shr_heard : Tryd.prog.stopsHeard = true := by kernel_rfl
theorem shr_enter : Tryd.prog.mayEnter = true := by kernel_rfl
theorem shr_lifted : (Rows.fnExactReadJsonRow.lifted == Tryd.prog.liftsFinal) = true := by kernel_rfl
theorem shr_make : (Tryd.prog.make == some Rows.fnExactReadJsonRow.make) = true := by kernel_rfl
end Go.Proofs.YthagllbnkbahnaaDoor.Abs
