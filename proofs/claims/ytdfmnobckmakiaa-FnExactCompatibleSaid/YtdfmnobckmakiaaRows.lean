/-
  NARROWER THAN 'FOR EVERY INPUT', by the rows' own cells (each row's printed sentence says how): FnExactReasonOf: loops · FnExactSameGiven: loops.
  DERIVED. THE GIVEN ROWS OF THIS SEAT. 5 by the template 'for every input the law returns true; each argument reads behind the call as it read before'; 0 by the template 'total and deterministic' (their statements: YtdfmnobckmakiaaTotals.lean).
  GIVEN WITH THE SEED: the statements are not yours to turn. If you find one false, say at which input.
  Laid BY PROGRAM, IN A SANDBOX (cutbox-rows.mjs): the forced cells as the released guide's own fill.sh prints them over the translation 6e445772a64a9312… (all of the seat's roots in one cut). By AI agents, Wed Nov 11 2026. No macro, syntax, notation, axiom, sorry.
-/
import Derived.Test.YtdfmnobckmakiaaChecked
import GoSem.Claim
import GoSem.ClaimJoined
import GoSem.ClaimMapViews
import Derived.JoinedTies
import Derived.KernelRfl
namespace Go.Proofs.Ytdfmnobckmakiaa
/- THE CELL 'sum', in the pinned program and in every row, IS THE sha256 OF THE DUMP (.gsa) THAT YtdfmnobckmakiaaProg.lean LOADS. Nothing in Lean hashes anything: it is a label: what it is worth is what the hold of that sum in a sandbox is worth. -/
noncomputable def Try.pinned : Pinned := { name := "ytdfmnobckmakiaa", sum := "6e445772a64a93128af47db3490ba1d14f1aa270d060c4f1c4162526271626d4", checked := Try.checked }
namespace Rows
def none {H : Type} : Left H := { results := [], args := [] }

/-- 'laws.FnExactOpPlace': WHATEVER THE INPUT: true; the input reads as it did. -/
def fnExactOpPlaceSpec : ChangeSpec := { name := "fnExactOpPlace", fn := fun _ => fun
  | [d] => { results := [.lit (.bool true)], args := [d] }
  | _ => none }
def fnExactOpPlaceRow : OpenClaim := { program := "ytdfmnobckmakiaa", sum := "6e445772a64a93128af47db3490ba1d14f1aa270d060c4f1c4162526271626d4", func := "loop.example/g00964/laws.FnExactOpPlace", spec := "fnExactOpPlace", apart := false }
def FnExactOpPlaceSaid : Prop := fnExactOpPlaceRow.holds Try.pinned (OpenSpec.ofChange fnExactOpPlaceSpec)

/-- ITS FALSE NEIGHBOUR: 'it returns false'. Refute it at one input. -/
def fnExactOpPlaceWrong : ChangeSpec := { name := "fnExactOpPlace", fn := fun _ => fun
  | [d] => { results := [.lit (.bool false)], args := [d] }
  | _ => none }
def FnExactOpPlaceWrongFalsely : Prop := fnExactOpPlaceRow.holds Try.pinned (OpenSpec.ofChange fnExactOpPlaceWrong)

/-- 'laws.FnExactCompatible': WHATEVER THE INPUT: true; the input reads as it did. -/
def fnExactCompatibleSpec : ChangeSpec := { name := "fnExactCompatible", fn := fun _ => fun
  | [d1, d2] => { results := [.lit (.bool true)], args := [d1, d2] }
  | _ => none }
def fnExactCompatibleRow : OpenClaim := { program := "ytdfmnobckmakiaa", sum := "6e445772a64a93128af47db3490ba1d14f1aa270d060c4f1c4162526271626d4", func := "loop.example/g00964/laws.FnExactCompatible", spec := "fnExactCompatible", recurses := true, apart := false }
def FnExactCompatibleSaid : Prop := fnExactCompatibleRow.holds Try.pinned (OpenSpec.ofChange fnExactCompatibleSpec)

/-- ITS FALSE NEIGHBOUR: 'it returns false'. Refute it at one input. -/
def fnExactCompatibleWrong : ChangeSpec := { name := "fnExactCompatible", fn := fun _ => fun
  | [d1, d2] => { results := [.lit (.bool false)], args := [d1, d2] }
  | _ => none }
def FnExactCompatibleWrongFalsely : Prop := fnExactCompatibleRow.holds Try.pinned (OpenSpec.ofChange fnExactCompatibleWrong)

/-- 'laws.FnExactNameChanges': WHATEVER THE INPUT: true; the input reads as it did. -/
def fnExactNameChangesSpec : ChangeSpec := { name := "fnExactNameChanges", fn := fun _ => fun
  | [d1, d2, d3, d4, d5] => { results := [.lit (.bool true)], args := [d1, d2, d3, d4, d5] }
  | _ => none }
def fnExactNameChangesRow : OpenClaim := { program := "ytdfmnobckmakiaa", sum := "6e445772a64a93128af47db3490ba1d14f1aa270d060c4f1c4162526271626d4", func := "loop.example/g00964/laws.FnExactNameChanges", spec := "fnExactNameChanges", recurses := true, apart := false }
def FnExactNameChangesSaid : Prop := fnExactNameChangesRow.holds Try.pinned (OpenSpec.ofChange fnExactNameChangesSpec)

/-- ITS FALSE NEIGHBOUR: 'it returns false'. Refute it at one input. -/
def fnExactNameChangesWrong : ChangeSpec := { name := "fnExactNameChanges", fn := fun _ => fun
  | [d1, d2, d3, d4, d5] => { results := [.lit (.bool false)], args := [d1, d2, d3, d4, d5] }
  | _ => none }
def FnExactNameChangesWrongFalsely : Prop := fnExactNameChangesRow.holds Try.pinned (OpenSpec.ofChange fnExactNameChangesWrong)

/-- 'laws.FnExactReasonOf': WHATEVER THE INPUT: true; the input reads as it did. -/
def fnExactReasonOfSpec : ChangeSpec := { name := "fnExactReasonOf", fn := fun _ => fun
  | [d] => { results := [.lit (.bool true)], args := [d] }
  | _ => none }
def fnExactReasonOfRow : OpenClaim := { program := "ytdfmnobckmakiaa", sum := "6e445772a64a93128af47db3490ba1d14f1aa270d060c4f1c4162526271626d4", func := "loop.example/g00964/laws.FnExactReasonOf", spec := "fnExactReasonOf", recurses := true, loops := true, apart := false }
def FnExactReasonOfSaid : Prop := fnExactReasonOfRow.holds Try.pinned (OpenSpec.ofChange fnExactReasonOfSpec)

/-- ITS FALSE NEIGHBOUR: 'it returns false'. Refute it at one input. -/
def fnExactReasonOfWrong : ChangeSpec := { name := "fnExactReasonOf", fn := fun _ => fun
  | [d] => { results := [.lit (.bool false)], args := [d] }
  | _ => none }
def FnExactReasonOfWrongFalsely : Prop := fnExactReasonOfRow.holds Try.pinned (OpenSpec.ofChange fnExactReasonOfWrong)

/-- 'laws.FnExactSameGiven': WHATEVER THE INPUT: true; the input reads as it did. -/
def fnExactSameGivenSpec : ChangeSpec := { name := "fnExactSameGiven", fn := fun _ => fun
  | [d1, d2] => { results := [.lit (.bool true)], args := [d1, d2] }
  | _ => none }
def fnExactSameGivenRow : OpenClaim := { program := "ytdfmnobckmakiaa", sum := "6e445772a64a93128af47db3490ba1d14f1aa270d060c4f1c4162526271626d4", func := "loop.example/g00964/laws.FnExactSameGiven", spec := "fnExactSameGiven", unfollowed := true, recurses := true, loops := true, apart := false }
def FnExactSameGivenSaid : Prop := fnExactSameGivenRow.holds Try.pinned (OpenSpec.ofChange fnExactSameGivenSpec)

/-- ITS FALSE NEIGHBOUR: 'it returns false'. Refute it at one input. -/
def fnExactSameGivenWrong : ChangeSpec := { name := "fnExactSameGiven", fn := fun _ => fun
  | [d1, d2] => { results := [.lit (.bool false)], args := [d1, d2] }
  | _ => none }
def FnExactSameGivenWrongFalsely : Prop := fnExactSameGivenRow.holds Try.pinned (OpenSpec.ofChange fnExactSameGivenWrong)

/- THE SECOND FORM. 'bulk': how many values and letters a reading holds, each counted each time it is reached (what is shared counts as often as it is met; a slice's spare places count too). A statement '..UptoSaid' is the law's where the arguments, and the package variables that the reading takes, are together of bulk at most 1048576: NARROWER than '..Said'. Prove '..Said' where nothing that the law and all that it calls make is longer than what came in: it says more and counts as full. Else prove '..UptoSaid'. A law counts once. -/
mutual
def uptoBulk {H : Type} : DataW H → Nat
  | .lit (.string bytes) => bytes.length + 1
  | .lit _ => 1
  | .nil => 1
  | .ptr d => uptoBulk d + 1
  | .slice elems spare => uptoBulkAll elems + uptoBulkAll spare + 1
  | .agg parts => uptoBulkAll parts + 1
  | .iface _ d => uptoBulk d + 1
  | .map entries => uptoBulkEntries entries + 1
  | .held _ => 1
def uptoBulkAll {H : Type} : List (DataW H) → Nat
  | [] => 0
  | d :: r => uptoBulk d + uptoBulkAll r
def uptoBulkEntries {H : Type} : List (Lit × DataW H) → Nat
  | [] => 0
  | x :: r => uptoBulkEntry x + uptoBulkEntries r
def uptoBulkEntry {H : Type} : Lit × DataW H → Nat
  | (.string bytes, d) => bytes.length + uptoBulk d + 1
  | (_, d) => uptoBulk d + 1
 end
def uptoSmall : (H : Type) → List (DataW H) → Bool := fun _ ds => decide (uptoBulkAll ds ≤ 1048576)
def OpenSpec.upto (s : _root_.Go.ChangeSpec) : _root_.Go.OpenSpec := { _root_.Go.OpenSpec.ofChange s with cond := some uptoSmall }

/-- 'laws.FnExactOpPlace', WHERE WHAT IT READS IS OF BULK AT MOST 1048576: true; the input reads as it did. -/
def fnExactOpPlaceUptoRow : OpenClaim := { program := "ytdfmnobckmakiaa", sum := "6e445772a64a93128af47db3490ba1d14f1aa270d060c4f1c4162526271626d4", func := "loop.example/g00964/laws.FnExactOpPlace", spec := "fnExactOpPlace", apart := false, narrowed := true }
def FnExactOpPlaceUptoSaid : Prop := fnExactOpPlaceUptoRow.holds Try.pinned (OpenSpec.upto fnExactOpPlaceSpec)

/-- 'laws.FnExactCompatible', WHERE WHAT IT READS IS OF BULK AT MOST 1048576: true; the input reads as it did. -/
def fnExactCompatibleUptoRow : OpenClaim := { program := "ytdfmnobckmakiaa", sum := "6e445772a64a93128af47db3490ba1d14f1aa270d060c4f1c4162526271626d4", func := "loop.example/g00964/laws.FnExactCompatible", spec := "fnExactCompatible", recurses := true, apart := false, narrowed := true }
def FnExactCompatibleUptoSaid : Prop := fnExactCompatibleUptoRow.holds Try.pinned (OpenSpec.upto fnExactCompatibleSpec)

/-- 'laws.FnExactNameChanges', WHERE WHAT IT READS IS OF BULK AT MOST 1048576: true; the input reads as it did. -/
def fnExactNameChangesUptoRow : OpenClaim := { program := "ytdfmnobckmakiaa", sum := "6e445772a64a93128af47db3490ba1d14f1aa270d060c4f1c4162526271626d4", func := "loop.example/g00964/laws.FnExactNameChanges", spec := "fnExactNameChanges", recurses := true, apart := false, narrowed := true }
def FnExactNameChangesUptoSaid : Prop := fnExactNameChangesUptoRow.holds Try.pinned (OpenSpec.upto fnExactNameChangesSpec)

/-- 'laws.FnExactReasonOf', WHERE WHAT IT READS IS OF BULK AT MOST 1048576: true; the input reads as it did. -/
def fnExactReasonOfUptoRow : OpenClaim := { program := "ytdfmnobckmakiaa", sum := "6e445772a64a93128af47db3490ba1d14f1aa270d060c4f1c4162526271626d4", func := "loop.example/g00964/laws.FnExactReasonOf", spec := "fnExactReasonOf", recurses := true, loops := true, apart := false, narrowed := true }
def FnExactReasonOfUptoSaid : Prop := fnExactReasonOfUptoRow.holds Try.pinned (OpenSpec.upto fnExactReasonOfSpec)

/-- 'laws.FnExactSameGiven', WHERE WHAT IT READS IS OF BULK AT MOST 1048576: true; the input reads as it did. -/
def fnExactSameGivenUptoRow : OpenClaim := { program := "ytdfmnobckmakiaa", sum := "6e445772a64a93128af47db3490ba1d14f1aa270d060c4f1c4162526271626d4", func := "loop.example/g00964/laws.FnExactSameGiven", spec := "fnExactSameGiven", unfollowed := true, recurses := true, loops := true, apart := false, narrowed := true }
def FnExactSameGivenUptoSaid : Prop := fnExactSameGivenUptoRow.holds Try.pinned (OpenSpec.upto fnExactSameGivenSpec)

end Rows
end Go.Proofs.Ytdfmnobckmakiaa
