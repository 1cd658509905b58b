/-
  NARROWER THAN 'FOR EVERY INPUT', by the rows' own cells (each row's printed sentence says how): FnExactUsesIn: loops · FnExactPlacesOf: loops.
  DERIVED. THE GIVEN ROWS OF THIS SEAT. 2 by the template 'for every input the law returns true; each argument reads behind the call as it read before'; 0 by the template 'total and deterministic' (their statements: YthagllbnkbahnaaGreatTotals.lean).
  GIVEN WITH THE SEED: the statements are not yours to turn. If you find one false, say at which input.
  Laid BY PROGRAM, IN A SANDBOX (cutbox-rows.mjs): the forced cells as the released guide's own fill.sh prints them over the translation e667fee8a1951661… (all of the seat's roots in one cut). By AI agents, Wed Nov 11 2026. No macro, syntax, notation, axiom, sorry.
-/
import Derived.Test.YthagllbnkbahnaaGreatChecked
import GoSem.Claim
import GoSem.ClaimJoined
import GoSem.ClaimMapViews
import Derived.JoinedTies
import Derived.KernelRfl
namespace Go.Proofs.YthagllbnkbahnaaGreat
/- THE CELL 'sum', in the pinned program and in every row, IS THE sha256 OF THE DUMP (.gsa) THAT YthagllbnkbahnaaGreatProg.lean LOADS. Nothing in Lean hashes anything: it is a label: what it is worth is what the hold of that sum in a sandbox is worth. -/
noncomputable def Tryz.pinned : Pinned := { name := "ythagllbnkbahnaagreat", sum := "e667fee8a195166135c61fb32a2f73ba5f66e3743ae1636d5eb7e605224487c1", checked := Tryz.checked }
namespace Rows
def none {H : Type} : Left H := { results := [], args := [] }

/-- 'laws.FnExactUsesIn': WHATEVER THE INPUT: true; the input reads as it did. -/
def fnExactUsesInSpec : ChangeSpec := { name := "fnExactUsesIn", fn := fun _ => fun
  | [d1, d2, d3] => { results := [.lit (.bool true)], args := [d1, d2, d3] }
  | _ => none }
def fnExactUsesInRow : OpenClaim := { program := "ythagllbnkbahnaagreat", sum := "e667fee8a195166135c61fb32a2f73ba5f66e3743ae1636d5eb7e605224487c1", func := "loop.example/g00964/laws.FnExactUsesIn", spec := "fnExactUsesIn", unfollowed := true, recurses := true, loops := true, apart := false }
def FnExactUsesInSaid : Prop := fnExactUsesInRow.holds Tryz.pinned (OpenSpec.ofChange fnExactUsesInSpec)

/-- ITS FALSE NEIGHBOUR: 'it returns false'. Refute it at one input. -/
def fnExactUsesInWrong : ChangeSpec := { name := "fnExactUsesIn", fn := fun _ => fun
  | [d1, d2, d3] => { results := [.lit (.bool false)], args := [d1, d2, d3] }
  | _ => none }
def FnExactUsesInWrongFalsely : Prop := fnExactUsesInRow.holds Tryz.pinned (OpenSpec.ofChange fnExactUsesInWrong)

/-- 'laws.FnExactPlacesOf': WHATEVER THE INPUT: true; the input reads as it did. -/
def fnExactPlacesOfSpec : ChangeSpec := { name := "fnExactPlacesOf", fn := fun _ => fun
  | [d1, d2, d3] => { results := [.lit (.bool true)], args := [d1, d2, d3] }
  | _ => none }
def fnExactPlacesOfRow : OpenClaim := { program := "ythagllbnkbahnaagreat", sum := "e667fee8a195166135c61fb32a2f73ba5f66e3743ae1636d5eb7e605224487c1", func := "loop.example/g00964/laws.FnExactPlacesOf", spec := "fnExactPlacesOf", unfollowed := true, recurses := true, loops := true, apart := false }
def FnExactPlacesOfSaid : Prop := fnExactPlacesOfRow.holds Tryz.pinned (OpenSpec.ofChange fnExactPlacesOfSpec)

/-- ITS FALSE NEIGHBOUR: 'it returns false'. Refute it at one input. -/
def fnExactPlacesOfWrong : ChangeSpec := { name := "fnExactPlacesOf", fn := fun _ => fun
  | [d1, d2, d3] => { results := [.lit (.bool false)], args := [d1, d2, d3] }
  | _ => none }
def FnExactPlacesOfWrongFalsely : Prop := fnExactPlacesOfRow.holds Tryz.pinned (OpenSpec.ofChange fnExactPlacesOfWrong)

/- THE SECOND FORM. 'bulk': how many values and letters a reading holds, each counted each time it is reached (what is shared counts as often as it is met; a slice's spare places count too). A statement '..UptoSaid' is the law's where the arguments, and the package variables that the reading takes, are together of bulk at most 1048576: NARROWER than '..Said'. Prove '..Said' where nothing that the law and all that it calls make is longer than what came in: it says more and counts as full. Else prove '..UptoSaid'. A law counts once. -/
mutual
def uptoBulk {H : Type} : DataW H → Nat
  | .lit (.string bytes) => bytes.length + 1
  | .lit _ => 1
  | .nil => 1
  | .ptr d => uptoBulk d + 1
  | .slice elems spare => uptoBulkAll elems + uptoBulkAll spare + 1
  | .agg parts => uptoBulkAll parts + 1
  | .iface _ d => uptoBulk d + 1
  | .map entries => uptoBulkEntries entries + 1
  | .held _ => 1
def uptoBulkAll {H : Type} : List (DataW H) → Nat
  | [] => 0
  | d :: r => uptoBulk d + uptoBulkAll r
def uptoBulkEntries {H : Type} : List (Lit × DataW H) → Nat
  | [] => 0
  | x :: r => uptoBulkEntry x + uptoBulkEntries r
def uptoBulkEntry {H : Type} : Lit × DataW H → Nat
  | (.string bytes, d) => bytes.length + uptoBulk d + 1
  | (_, d) => uptoBulk d + 1
 end
def uptoSmall : (H : Type) → List (DataW H) → Bool := fun _ ds => decide (uptoBulkAll ds ≤ 1048576)
def OpenSpec.upto (s : _root_.Go.ChangeSpec) : _root_.Go.OpenSpec := { _root_.Go.OpenSpec.ofChange s with cond := some uptoSmall }

/-- 'laws.FnExactUsesIn', WHERE WHAT IT READS IS OF BULK AT MOST 1048576: true; the input reads as it did. -/
def fnExactUsesInUptoRow : OpenClaim := { program := "ythagllbnkbahnaagreat", sum := "e667fee8a195166135c61fb32a2f73ba5f66e3743ae1636d5eb7e605224487c1", func := "loop.example/g00964/laws.FnExactUsesIn", spec := "fnExactUsesIn", unfollowed := true, recurses := true, loops := true, apart := false, narrowed := true }
def FnExactUsesInUptoSaid : Prop := fnExactUsesInUptoRow.holds Tryz.pinned (OpenSpec.upto fnExactUsesInSpec)

/-- 'laws.FnExactPlacesOf', WHERE WHAT IT READS IS OF BULK AT MOST 1048576: true; the input reads as it did. -/
def fnExactPlacesOfUptoRow : OpenClaim := { program := "ythagllbnkbahnaagreat", sum := "e667fee8a195166135c61fb32a2f73ba5f66e3743ae1636d5eb7e605224487c1", func := "loop.example/g00964/laws.FnExactPlacesOf", spec := "fnExactPlacesOf", unfollowed := true, recurses := true, loops := true, apart := false, narrowed := true }
def FnExactPlacesOfUptoSaid : Prop := fnExactPlacesOfUptoRow.holds Tryz.pinned (OpenSpec.upto fnExactPlacesOfSpec)

end Rows
end Go.Proofs.YthagllbnkbahnaaGreat
