/- Facts of the program that every row of this seat needs. No condition. -/
import Derived.Test.YtcgkcbmhjbbjmaaRows
import Derived.Test.YtcgkcbmhjbbjmaaJoi
set_option linter.unusedVariables false
namespace Go.Proofs.Ytcgkcbmhjbbjmaa.Abs
open Go
theorem own : ownKnob Try.prog.godebug = none := by kernel_rfl
theorem shr_laid : laidOutB Try.prog = true := by kernel_rfl
theorem shr_maps : mapsRowed Try.prog = true := by kernel_rfl
theorem shr_stops : (Try.prog.stops == []) = true := by kernel_rfl
theorem shr_knobs : (Try.prog.stopKnobs == []) = true := by kernel_rfl
theorem shr_plain : (Rows.fnExactNameChangesRow.plainKeys == Try.prog.plainKeys) = true := by kernel_rfl
theorem shr_heard : Try.prog.stopsHeard = true := by kernel_rfl
theorem shr_enter : Try.prog.mayEnter = true := by kernel_rfl
theorem shr_lifted : (Rows.fnExactNameChangesRow.lifted == Try.prog.liftsFinal) = true := by kernel_rfl
theorem shr_make : (Try.prog.make == some Rows.fnExactNameChangesRow.make) = true := by kernel_rfl
end Go.Proofs.Ytcgkcbmhjbbjmaa.Abs
