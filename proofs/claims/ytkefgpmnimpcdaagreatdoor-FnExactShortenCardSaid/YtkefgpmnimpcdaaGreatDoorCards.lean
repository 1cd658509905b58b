/-
  DERIVED. GIVEN WITH THE SEED: THE CARDS: each row of YtkefgpmnimpcdaaGreatDoorRows.lean that lists a variable, with what it lists TIED to the program's text (the seventh form; the later family's looks); each row that meets fmt, with fmt's text TOLD by the authors' own Lean function (tested against real Go, not proved from fmt's source: count such statements apart). THE CARD IS WHAT COUNTS. Prove the row's statement (the work); the ties are given (YtkefgpmnimpcdaaGreatDoorTie.lean); close each card by the builder's one call (the guide's Derived/Test/ToyasCard.lean, 'card_holds'). Laid BY PROGRAM, IN A SANDBOX (cutbox-door.mjs). By AI agents, Wed Nov 11 2026. No macro, syntax, notation, axiom, sorry.
-/
import Derived.Test.YtkefgpmnimpcdaaGreatDoorRows
import GoSem.ClaimSeven
namespace Go.Proofs.YtkefgpmnimpcdaaGreatDoor
namespace Rows

/-- THE TIED CARD OF 'laws.FnExactTokensOf'. -/
def fnExactTokensOfCard : Claim7 := { stood := { row := fnExactTokensOfRow, standIns := [], harness := (true, "5a941a2a1fa89a2a31974192e6927f2ca64e732c1f2569dc564b31fffc5bbe3b"), looks := false }, kinds := [], alts := [], laidByText := true, laidKinds := [.data, .pinned], laidTests := true, laidLooks := .later }
def FnExactTokensOfCardSaid : Prop := Claim7.holds Tryz.pinned (.plain (OpenSpec.ofChange fnExactTokensOfSpec)) fnExactTokensOfCard

/-- THE TIED CARD OF 'laws.FnExactReadType'. -/
def fnExactReadTypeCard : Claim7 := { stood := { row := fnExactReadTypeRow, standIns := [], harness := (true, "5a941a2a1fa89a2a31974192e6927f2ca64e732c1f2569dc564b31fffc5bbe3b"), looks := false }, kinds := [], alts := [], laidByText := true, laidKinds := [.data, .pinned], laidTests := true, laidLooks := .later }
def FnExactReadTypeCardSaid : Prop := Claim7.holds Tryz.pinned (.plain (OpenSpec.ofChange fnExactReadTypeSpec)) fnExactReadTypeCard

/-- THE TIED CARD OF 'laws.FnExactReadValue'. -/
def fnExactReadValueCard : Claim7 := { stood := { row := fnExactReadValueRow, standIns := [], harness := (true, "5a941a2a1fa89a2a31974192e6927f2ca64e732c1f2569dc564b31fffc5bbe3b"), looks := false }, kinds := [], alts := [], laidByText := true, laidKinds := [.data, .pinned], laidTests := true, laidLooks := .later }
def FnExactReadValueCardSaid : Prop := Claim7.holds Tryz.pinned (.plain (OpenSpec.ofChange fnExactReadValueSpec)) fnExactReadValueCard

/-- THE TIED CARD OF 'laws.FnExactTypeJson'. -/
def fnExactTypeJsonCard : Claim7 := { stood := { row := fnExactTypeJsonRow, standIns := [], harness := (true, "5a941a2a1fa89a2a31974192e6927f2ca64e732c1f2569dc564b31fffc5bbe3b"), looks := false }, kinds := [], alts := [], laidByText := true, laidKinds := [.listed, .data], laidTests := true, laidLooks := .later }
def FnExactTypeJsonCardSaid : Prop := Claim7.holds Tryz.pinned (.plain (OpenSpec.ofChange fnExactTypeJsonSpec)) fnExactTypeJsonCard

/-- THE TIED CARD OF 'laws.FnExactInJson'. -/
def fnExactInJsonCard : Claim7 := { stood := { row := fnExactInJsonRow, standIns := [], harness := (true, "5a941a2a1fa89a2a31974192e6927f2ca64e732c1f2569dc564b31fffc5bbe3b"), looks := false }, kinds := [], alts := [], laidByText := true, laidKinds := [.data, .listed, .data, .pinned], laidTests := true, laidLooks := .later }
def FnExactInJsonCardSaid : Prop := Claim7.holds Tryz.pinned (.plain (OpenSpec.ofChange fnExactInJsonSpec)) fnExactInJsonCard

/-- THE TIED CARD OF 'laws.FnExactShorten'. -/
def fnExactShortenCard : Claim7 := { stood := { row := fnExactShortenRow, standIns := [], harness := (true, "5a941a2a1fa89a2a31974192e6927f2ca64e732c1f2569dc564b31fffc5bbe3b"), looks := false }, kinds := [], alts := [], laidByText := true, laidKinds := [.data, .pinned], laidTests := true, laidLooks := .later }
def FnExactShortenCardSaid : Prop := Claim7.holds Tryz.pinned (.plain (OpenSpec.ofChange fnExactShortenSpec)) fnExactShortenCard

/-- THE TIED CARD OF 'laws.FnExactDefJson'. -/
def fnExactDefJsonCard : Claim7 := { stood := { row := fnExactDefJsonRow, standIns := [], harness := (true, "5a941a2a1fa89a2a31974192e6927f2ca64e732c1f2569dc564b31fffc5bbe3b"), looks := false }, kinds := [], alts := [], laidByText := true, laidKinds := [.data, .listed, .data, .pinned], laidTests := true, laidLooks := .later }
def FnExactDefJsonCardSaid : Prop := Claim7.holds Tryz.pinned (.plain (OpenSpec.ofChange fnExactDefJsonSpec)) fnExactDefJsonCard

/-- THE SECOND FORM's CARD OF 'laws.FnExactTokensOf'. -/
def fnExactTokensOfUptoCard : Claim7 := { stood := { row := fnExactTokensOfUptoRow, standIns := [], harness := (true, "5a941a2a1fa89a2a31974192e6927f2ca64e732c1f2569dc564b31fffc5bbe3b"), looks := false }, kinds := [], alts := [], laidByText := true, laidKinds := [.data, .pinned], laidTests := true, laidLooks := .later }
def FnExactTokensOfUptoCardSaid : Prop := Claim7.holds Tryz.pinned (.plain (OpenSpec.upto fnExactTokensOfSpec)) fnExactTokensOfUptoCard

/-- THE SECOND FORM's CARD OF 'laws.FnExactReadType'. -/
def fnExactReadTypeUptoCard : Claim7 := { stood := { row := fnExactReadTypeUptoRow, standIns := [], harness := (true, "5a941a2a1fa89a2a31974192e6927f2ca64e732c1f2569dc564b31fffc5bbe3b"), looks := false }, kinds := [], alts := [], laidByText := true, laidKinds := [.data, .pinned], laidTests := true, laidLooks := .later }
def FnExactReadTypeUptoCardSaid : Prop := Claim7.holds Tryz.pinned (.plain (OpenSpec.upto fnExactReadTypeSpec)) fnExactReadTypeUptoCard

/-- THE SECOND FORM's CARD OF 'laws.FnExactReadValue'. -/
def fnExactReadValueUptoCard : Claim7 := { stood := { row := fnExactReadValueUptoRow, standIns := [], harness := (true, "5a941a2a1fa89a2a31974192e6927f2ca64e732c1f2569dc564b31fffc5bbe3b"), looks := false }, kinds := [], alts := [], laidByText := true, laidKinds := [.data, .pinned], laidTests := true, laidLooks := .later }
def FnExactReadValueUptoCardSaid : Prop := Claim7.holds Tryz.pinned (.plain (OpenSpec.upto fnExactReadValueSpec)) fnExactReadValueUptoCard

/-- THE SECOND FORM's CARD OF 'laws.FnExactTypeJson'. -/
def fnExactTypeJsonUptoCard : Claim7 := { stood := { row := fnExactTypeJsonUptoRow, standIns := [], harness := (true, "5a941a2a1fa89a2a31974192e6927f2ca64e732c1f2569dc564b31fffc5bbe3b"), looks := false }, kinds := [], alts := [], laidByText := true, laidKinds := [.listed, .data], laidTests := true, laidLooks := .later }
def FnExactTypeJsonUptoCardSaid : Prop := Claim7.holds Tryz.pinned (.plain (OpenSpec.upto fnExactTypeJsonSpec)) fnExactTypeJsonUptoCard

/-- THE SECOND FORM's CARD OF 'laws.FnExactInJson'. -/
def fnExactInJsonUptoCard : Claim7 := { stood := { row := fnExactInJsonUptoRow, standIns := [], harness := (true, "5a941a2a1fa89a2a31974192e6927f2ca64e732c1f2569dc564b31fffc5bbe3b"), looks := false }, kinds := [], alts := [], laidByText := true, laidKinds := [.data, .listed, .data, .pinned], laidTests := true, laidLooks := .later }
def FnExactInJsonUptoCardSaid : Prop := Claim7.holds Tryz.pinned (.plain (OpenSpec.upto fnExactInJsonSpec)) fnExactInJsonUptoCard

/-- THE SECOND FORM's CARD OF 'laws.FnExactShorten'. -/
def fnExactShortenUptoCard : Claim7 := { stood := { row := fnExactShortenUptoRow, standIns := [], harness := (true, "5a941a2a1fa89a2a31974192e6927f2ca64e732c1f2569dc564b31fffc5bbe3b"), looks := false }, kinds := [], alts := [], laidByText := true, laidKinds := [.data, .pinned], laidTests := true, laidLooks := .later }
def FnExactShortenUptoCardSaid : Prop := Claim7.holds Tryz.pinned (.plain (OpenSpec.upto fnExactShortenSpec)) fnExactShortenUptoCard

/-- THE SECOND FORM's CARD OF 'laws.FnExactDefJson'. -/
def fnExactDefJsonUptoCard : Claim7 := { stood := { row := fnExactDefJsonUptoRow, standIns := [], harness := (true, "5a941a2a1fa89a2a31974192e6927f2ca64e732c1f2569dc564b31fffc5bbe3b"), looks := false }, kinds := [], alts := [], laidByText := true, laidKinds := [.data, .listed, .data, .pinned], laidTests := true, laidLooks := .later }
def FnExactDefJsonUptoCardSaid : Prop := Claim7.holds Tryz.pinned (.plain (OpenSpec.upto fnExactDefJsonSpec)) fnExactDefJsonUptoCard
end Rows
end Go.Proofs.YtkefgpmnimpcdaaGreatDoor
