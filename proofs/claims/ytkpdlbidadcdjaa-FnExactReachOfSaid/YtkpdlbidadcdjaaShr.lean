/- Facts of the program that every row of this seat needs. No condition. -/
import Derived.Test.YtkpdlbidadcdjaaRows
import Derived.Test.YtkpdlbidadcdjaaJoi
set_option linter.unusedVariables false
namespace Go.Proofs.Ytkpdlbidadcdjaa.Abs
open Go
theorem own : ownKnob Try.prog.godebug = none := by kernel_rfl
theorem shr_laid : laidOutB Try.prog = true := by kernel_rfl
theorem shr_maps : mapsRowed Try.prog = true := by kernel_rfl
theorem shr_stops : (Try.prog.stops == []) = true := by kernel_rfl
theorem shr_knobs : (Try.prog.stopKnobs == []) = true := by kernel_rfl
theorem shr_plain : (Rows.fnExactReachOfRow.plainKeys == Try.prog.plainKeys) = true := by kernel_rfl
theorem shr_heard : Try.prog.stopsHeard = true := by kernel_rfl
theorem shr_enter : Try.prog.mayEnter = true := by kernel_rfl
theorem shr_lifted : (Rows.fnExactReachOfRow.lifted == Try.prog.liftsFinal) = true := by kernel_rfl
theorem shr_make : (Try.prog.make == some Rows.fnExactReachOfRow.make) = true := by kernel_rfl
end Go.Proofs.Ytkpdlbidadcdjaa.Abs
