/-
  DERIVED. GIVEN WITH THE SEED: THE CARDS: each row of YtkpdlbidadcdjaaDoorRows.lean that lists a variable, with what it lists TIED to the program's text (the seventh form; the later family's looks); each row that meets fmt, with fmt's text TOLD by the authors' own Lean function (tested against real Go, not proved from fmt's source: count such statements apart). THE CARD IS WHAT COUNTS. Prove the row's statement (the work); the ties are given (YtkpdlbidadcdjaaDoorTie.lean); close each card by the builder's one call (the guide's Derived/Test/ToyasCard.lean, 'card_holds'). Laid BY PROGRAM, IN A SANDBOX (cutbox-door.mjs). By AI agents, Wed Nov 11 2026. No macro, syntax, notation, axiom, sorry.
-/
import Derived.Test.YtkpdlbidadcdjaaDoorRows
import GoSem.ClaimSeven
namespace Go.Proofs.YtkpdlbidadcdjaaDoor
namespace Rows

/-- THE TIED CARD OF 'laws.FnExactJsonText'. -/
def fnExactJsonTextCard : Claim7 := { stood := { row := fnExactJsonTextRow, standIns := [], harness := (true, "b72d3d5afd9ab928642d5037e48eac30e3b6ce7309f5874e6e89ba0fa8103d6b"), looks := false }, kinds := [], alts := [], laidByText := true, laidKinds := [.data, .pinned], laidTests := true, laidLooks := .later }
def FnExactJsonTextCardSaid : Prop := Claim7.holds Tryd.pinned (.plain (OpenSpec.ofChange fnExactJsonTextSpec)) fnExactJsonTextCard

/-- THE TIED CARD OF 'laws.FnExactReadJson'. -/
def fnExactReadJsonCard : Claim7 := { stood := { row := fnExactReadJsonRow, standIns := [], harness := (true, "b72d3d5afd9ab928642d5037e48eac30e3b6ce7309f5874e6e89ba0fa8103d6b"), looks := false }, kinds := [], alts := [], laidByText := true, laidKinds := [.data, .pinned], laidTests := true, laidLooks := .later }
def FnExactReadJsonCardSaid : Prop := Claim7.holds Tryd.pinned (.plain (OpenSpec.ofChange fnExactReadJsonSpec)) fnExactReadJsonCard

/-- THE SECOND FORM's CARD OF 'laws.FnExactJsonText'. -/
def fnExactJsonTextUptoCard : Claim7 := { stood := { row := fnExactJsonTextUptoRow, standIns := [], harness := (true, "b72d3d5afd9ab928642d5037e48eac30e3b6ce7309f5874e6e89ba0fa8103d6b"), looks := false }, kinds := [], alts := [], laidByText := true, laidKinds := [.data, .pinned], laidTests := true, laidLooks := .later }
def FnExactJsonTextUptoCardSaid : Prop := Claim7.holds Tryd.pinned (.plain (OpenSpec.upto fnExactJsonTextSpec)) fnExactJsonTextUptoCard

/-- THE SECOND FORM's CARD OF 'laws.FnExactReadJson'. -/
def fnExactReadJsonUptoCard : Claim7 := { stood := { row := fnExactReadJsonUptoRow, standIns := [], harness := (true, "b72d3d5afd9ab928642d5037e48eac30e3b6ce7309f5874e6e89ba0fa8103d6b"), looks := false }, kinds := [], alts := [], laidByText := true, laidKinds := [.data, .pinned], laidTests := true, laidLooks := .later }
def FnExactReadJsonUptoCardSaid : Prop := Claim7.holds Tryd.pinned (.plain (OpenSpec.upto fnExactReadJsonSpec)) fnExactReadJsonUptoCard
end Rows
end Go.Proofs.YtkpdlbidadcdjaaDoor
