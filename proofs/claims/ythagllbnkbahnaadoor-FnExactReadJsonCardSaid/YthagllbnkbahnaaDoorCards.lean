/-
  DERIVED. GIVEN WITH THE SEED: THE CARDS: each row of YthagllbnkbahnaaDoorRows.lean that lists a variable, with what it lists TIED to the program's text (the seventh form; the later family's looks); each row that meets fmt, with fmt's text TOLD by the authors' own Lean function (tested against real Go, not proved from fmt's source: count such statements apart). THE CARD IS WHAT COUNTS. Prove the row's statement (the work); the ties are given (YthagllbnkbahnaaDoorTie.lean); close each card by the builder's one call (the guide's Derived/Test/ToyasCard.lean, 'card_holds'). Laid BY PROGRAM, IN A SANDBOX (cutbox-door.mjs). By AI agents, Wed Nov 11 2026. No macro, syntax, notation, axiom, sorry.
-/
import Derived.Test.YthagllbnkbahnaaDoorRows
import GoSem.ClaimSeven
namespace Go.Proofs.YthagllbnkbahnaaDoor
namespace Rows

/-- THE TIED CARD OF 'laws.FnExactReadJson'. -/
def fnExactReadJsonCard : Claim7 := { stood := { row := fnExactReadJsonRow, standIns := [], harness := (true, "f8f5078a6540335ecf70a6e816672e6a252ebaa03ca627d796fd5c13b90956e4"), looks := false }, kinds := [], alts := [], laidByText := true, laidKinds := [.data, .pinned], laidTests := true, laidLooks := .later }
def FnExactReadJsonCardSaid : Prop := Claim7.holds Tryd.pinned (.plain (OpenSpec.ofChange fnExactReadJsonSpec)) fnExactReadJsonCard

/-- THE SECOND FORM's CARD OF 'laws.FnExactReadJson'. -/
def fnExactReadJsonUptoCard : Claim7 := { stood := { row := fnExactReadJsonUptoRow, standIns := [], harness := (true, "f8f5078a6540335ecf70a6e816672e6a252ebaa03ca627d796fd5c13b90956e4"), looks := false }, kinds := [], alts := [], laidByText := true, laidKinds := [.data, .pinned], laidTests := true, laidLooks := .later }
def FnExactReadJsonUptoCardSaid : Prop := Claim7.holds Tryd.pinned (.plain (OpenSpec.upto fnExactReadJsonSpec)) fnExactReadJsonUptoCard
end Rows
end Go.Proofs.YthagllbnkbahnaaDoor
