/- FnExactShorten: the row: whatever its arguments, the law returns true, and they read as they did. No condition. -/
import Derived.Test.YtkefgpmnimpcdaaGreatDoorShB
import Derived.Test.YtkefgpmnimpcdaaGreatDoorShr
import Derived.Test.YtkefgpmnimpcdaaGreatDoorTyp
import Derived.Test.YtkefgpmnimpcdaaGreatDoorLaid
import Derived.Test.YtkefgpmnimpcdaaGreatDoorCards
import Derived.Test.YtkefgpmnimpcdaaGreatDoorTie
import Derived.JoinedCond
set_option linter.unusedVariables false
namespace Go.Proofs.YtkefgpmnimpcdaaGreatDoor.Abs
open Go Go.Shelf
open Go.ChangeShapes Go.WideShapes Go.ChangeAt Go.RowKit
theorem laid_eq : Rows.fnExactShortenRow.laid = [("unicode/utf8.acceptRanges", Lib.acceptData), ("unicode/utf8.first", Lib.firstData)] := by kernel_rfl
/-- The witness: the settled world, the listed tables holding what their initialisers lay. -/
noncomputable def laidWorld (os : Os) : World :=
  let w0 := World.holding Tryz.prog os ⟨#[], #[], []⟩
  let put (h : Array Obj) (g : Nat) (cs : Array Value) : Array Obj := h.modify g fun
    | .cells _ t frozen => .cells cs t frozen
    | o => o
  let h1 := put w0.heap 2 ((List.range 16).flatMap fun i => [Value.int .u8 (Lib.accLo i), Value.int .u8 (Lib.accHi i)]).toArray
  let h2 := put h1 1 (Lib.firstTab.map fun z => Value.int .u8 z).toArray
  { w0 with heap := h2 }
abbrev zs : Array Value := #[.string ⟨#[]⟩]
theorem laid_met (os : Os) : laidMet Tryz.prog Rows.fnExactShortenRow.laid ((laidWorld os).forCall (fun _ _ => 0) ⟨#[], zs, []⟩).memory := by
  rw [laid_eq]
  exact (LaidIn.of_run (l := [("unicode/utf8.acceptRanges", Lib.acceptData), ("unicode/utf8.first", Lib.firstData)]) [2, 1] 8 (by kernel_rfl) (by kernel_rfl) (by kernel_rfl) (by kernel_rfl)).met
theorem witness_row (os : Os) {H : Type} (enc : TypeId × Value → H) :
    (OpenSpec.ofChange Rows.fnExactShortenSpec).preRow enc Tryz.prog Tryz.f8 [] false Rows.fnExactShortenRow.laid ((laidWorld os).forCall (fun _ _ => 0) ⟨#[], zs, []⟩).memory zs := by
  obtain ⟨x, hx⟩ := Option.isSome_iff_exists.1 (show (DataW.whole enc Tryz.prog ((laidWorld os).forCall (fun _ _ => 0) ⟨#[], zs, []⟩).memory Tryz.f8.params.toList Rows.fnExactShortenSpec.vars false zs.toList 8).isSome = true by kernel_rfl)
  refine OpenSpec.preRow_of_cond (s := OpenSpec.ofChange Rows.fnExactShortenSpec) 8 hx rfl (fun k hk => by cases hk) (by kernel_rfl) ?_
  have hm := laid_met os
  unfold laidMetH
  rw [show (Rows.fnExactShortenRow.laid.filter fun x => x.2.handleName?.isSome) = [] by rw [laid_eq]; kernel_rfl]
  exact hm
set_option maxRecDepth 100000 in
theorem lifted (os : Os) (started : os.Started) (H : Type) (enc : TypeId × Value → H) (F : Stop.Interp) :
    ReturnsInHanded {} Tryz.checked os 8 .any ((OpenSpec.ofChange Rows.fnExactShortenSpec).preRow enc Tryz.prog Tryz.f8 [] false Rows.fnExactShortenRow.laid) (((OpenSpec.ofChange Rows.fnExactShortenSpec).at F).post enc Tryz.prog Tryz.f8 false true false false) := by
  refine law_laid (C := Tryz.checked) F [9] Rows.fnExactShortenRow.laid own started (by kernel_rfl) Tryz.func8
    (witness_row_atRef (enc := enc) (C := Tryz.checked) false (laidWorld os) zs rfl (by kernel_rfl) (by kernel_rfl) (by kernel_rfl) (witness_row os enc))
    rfl rfl (fun ds hds => ?_) rfl Tryz.underlying4 (by kernel_rfl) (by kernel_rfl) (by kernel_rfl) (fun args h => ?_) (fun W hL hsh => ?_)
  · have hds : ds.length = 1 := hds
    match ds, hds with
    | [d0], _ => rfl
  · replace h : TypedVs Tryz.prog [9] args := h
    cases h with
    | cons h0 q1 =>
      cases q1
      have g0 := typedV_one (by rw [td9]; simp) h0
      obtain ⟨a0, e0, hz0⟩ := typed_str td9 g0
      cases e0
      exact c_law a0
  · rw [laid_eq] at hL
    exact tab_utf8 hL (by kernel_rfl) (by simp) (by simp) hsh
theorem row1 : Rows.fnExactShortenRow.wf (OpenSpec.ofChange Rows.fnExactShortenSpec) = true := by kernel_rfl
theorem row2 : Tryz.f8.params.all (Tryz.prog.readableRec ·) = true := by kernel_rfl
theorem row3 : namedTie Tryz.prog Rows.fnExactShortenRow.named Rows.fnExactShortenSpec.vars = true := by kernel_rfl
theorem row4 : (Rows.fnExactShortenRow.stops == []) = true := by kernel_rfl
theorem row5 : (Rows.fnExactShortenRow.knobs == []) = true := by kernel_rfl
theorem row6 : (Rows.fnExactShortenRow.inPlace == Tryz.prog.inPlace 8) = true := by kernel_rfl
theorem row7 : (Rows.fnExactShortenRow.unfollowed == Tryz.prog.unfollowed 8) = true := by kernel_rfl
theorem row8 : (Rows.fnExactShortenRow.recurses == Tryz.prog.recurses 8) = true := by kernel_rfl
theorem row9 : (Rows.fnExactShortenRow.named == Tryz.prog.varsNamed 8) = true := by kernel_rfl
theorem row10 : (Rows.fnExactShortenRow.maps == (Tryz.f8.params.toList ++ Rows.fnExactShortenSpec.plain.varTypes Tryz.prog).any (Tryz.prog.mapsRec ·)) = true := by kernel_rfl
theorem row11 : (Rows.fnExactShortenRow.ifaces == (Tryz.f8.params.toList ++ Rows.fnExactShortenSpec.plain.varTypes Tryz.prog).any (Tryz.prog.ifacesRec ·)) = true := by kernel_rfl
theorem row12 : (Rows.fnExactShortenRow.mapsOut == Tryz.prog.mapsAmong Tryz.f8.resultTypes.toList) = true := by kernel_rfl
theorem row13 : (Rows.fnExactShortenRow.loops == (Tryz.f8.params.toList ++ Rows.fnExactShortenSpec.plain.varTypes Tryz.prog).any (Tryz.prog.loopsFrom ·)) = true := by kernel_rfl
theorem row14 : (Rows.fnExactShortenRow.wideKeys == (Tryz.f8.params.toList ++ Rows.fnExactShortenSpec.plain.varTypes Tryz.prog ++ Tryz.f8.resultTypes.toList).any (Tryz.prog.wideKeysFrom ·)) = true := by kernel_rfl
theorem row15 : Rows.fnExactShortenSpec.vars.all (Tryz.prog.varReadable ·) = true := by kernel_rfl
theorem row16 : Tryz.f8.resultTypes.all (fun t => Tryz.prog.readableRec t && decide (t < Tryz.prog.types.size)) = true := by kernel_rfl
theorem row17 : (Rows.fnExactShortenRow.ifacesOut == Tryz.f8.resultTypes.toList.any (Tryz.prog.ifacesRec ·)) = true := by kernel_rfl
theorem row18 : (Rows.fnExactShortenRow.loopsOut == Tryz.f8.resultTypes.toList.any (Tryz.prog.loopsFrom ·)) = true := by kernel_rfl
theorem row19 : Rows.fnExactShortenRow.shortTexts.isNone = true := by kernel_rfl
theorem row20 : (Rows.fnExactShortenRow.kinds == (if Rows.fnExactShortenRow.domain.isEmpty then [] else Tryz.f8.params.toList.map fun t => match Tryz.prog.underlying t with | some (.int k) => some k | _ => none)) = true := by kernel_rfl
theorem row21 : (Rows.fnExactShortenRow.pinned == Rows.fnExactShortenRow.pinnedBy) = true := by kernel_rfl
theorem row22 : (Rows.fnExactShortenRow.veiled == (Tryz.f8.params.toList ++ Rows.fnExactShortenSpec.plain.varTypes Tryz.prog ++ Tryz.f8.resultTypes.toList).any (Tryz.prog.veiledRec ·)) = true := by kernel_rfl
theorem row23 : Rows.fnExactShortenRow.veiledFits Tryz.prog Tryz.f8.params.toList (Tryz.f8.params.toList ++ Rows.fnExactShortenSpec.plain.varTypes Tryz.prog ++ Tryz.f8.resultTypes.toList) = true := by kernel_rfl
set_option maxRecDepth 100000 in
theorem said : Rows.FnExactShortenSaid :=
  OpenClaim.holds_of_cond 8 Tryz.f8 rfl rfl rfl rfl rfl rfl rfl ⟨rfl, rfl, rfl, rfl, rfl⟩ rfl rfl rfl rfl rfl (by kernel_rfl) Tryz.func8 (joined_of shr_laid shr_maps shr_stops shr_knobs shr_plain shr_heard shr_enter shr_lifted shr_make row1 row2 row3 row4 row5 row6 row7 row8 row9 row10 row11 row12 row13 row14 row15 row16 row17 row18 row19 row20 row21 row22 row23)
    (of_decide_eq_true (by kernel_rfl)) (by unfold Func.isWrapper; first | (rw [if_pos (by decide +kernel)]; kernel_rfl) | (rw [if_neg (by decide +kernel)]; exact ⟨rfl, rfl⟩))
    (fun os started H enc _ F => by rw [OpenClaim.pre_eq_preRow]; exact lifted os started H enc F)
/-- No parameter wants a stand-in; the program's own looks are off. -/
theorem plain (f : FuncId) (fn : Func) (hf : Tryz.pinned.checked.prog.funcNamed "loop.example/g00964/laws.FnExactShorten" = some f) (hfn : Tryz.pinned.checked.prog.funcs[f]? = some fn) :
    false = Tryz.pinned.checked.prog.looks [] ∧ ∀ (j : Nat) t, fn.params[j]? = some t → Tryz.pinned.checked.prog.wantsStandIn t = false := by
  obtain rfl : f = 8 := Option.some.inj ((show Tryz.prog.funcNamed "loop.example/g00964/laws.FnExactShorten" = some 8 by kernel_rfl).symm.trans hf) |>.symm
  obtain rfl : fn = Tryz.f8 := (Option.some.inj (Tryz.func8.symm.trans hfn)).symm
  refine ⟨by kernel_rfl, fun j t ht => ?_⟩
  have hm : t ∈ [9] := by have := Array.mem_of_getElem? ht; rw [Tryz.params8] at this; simpa using this
  have hall : ([9].all fun u => !Tryz.prog.wantsStandIn u) = true := by kernel_rfl
  exact (show Tryz.prog.wantsStandIn t = false by simpa using List.all_eq_true.1 hall t hm)
theorem over : Rows.FnExactShortenCardSaid :=
  Claim7.holds_tied_plain_at .later [] _ _ _ _ said (fun _ h => by cases h) (by kernel_rfl) (fun _ h => by cases h) fnExactShorten_row_tie rfl ⟨rfl, rfl⟩ (by kernel_rfl) rfl plain (by kernel_rfl)
end Go.Proofs.YtkefgpmnimpcdaaGreatDoor.Abs
namespace Go.Proofs.YtkefgpmnimpcdaaGreatDoor
/-- The card, under a short name, for the claim. -/
theorem fnExactShorten_card : Rows.FnExactShortenCardSaid := Abs.over
#print axioms fnExactShorten_card
end Go.Proofs.YtkefgpmnimpcdaaGreatDoor
