/- A law over listed tables: what its contract gives to the row. No condition. -/
import Derived.Test.YtkefgpmnimpcdaaGreatDoorTxLib
import Derived.Lib.LaidIn
import Derived.Lib.LaidU8T
import Derived.Deep.DeepHandedRow
import Derived.Deep.DeepWitnessRowRef
import Derived.Shelf.Vars
set_option linter.unusedVariables false
set_option linter.unusedSimpArgs false
namespace Go.Proofs.YtkefgpmnimpcdaaGreatDoor.Abs
open Go Go.Shelf
open Go.ChangeShapes Go.WideShapes Go.ChangeAt Go.RowKit
set_option maxHeartbeats 1000000
theorem block_of_cell {w : World} {a : Addr} {v : Value} (h : w.cell? a = some v) : a.block < w.heap.size := by
  unfold World.cell? at h
  by_cases hlt : a.block < w.heap.size
  · exact hlt
  · rw [Array.getElem?_eq_none (by omega)] at h; simp at h
theorem tab_of_cells {w : World} (h : ∀ x ∈ tabs, w.cell? x.1 = some x.2) (h2 : ∀ a ∈ tabInts, ∃ m, w.cell? a = some (.int .i64 m)) : Tab w (PrW w) :=
  ⟨fun x hx => ⟨block_of_cell (h x hx), h x hx⟩, fun a ha => ⟨block_of_cell (h2 a ha).choose_spec, h2 a ha⟩⟩
set_option maxRecDepth 100000 in
/-- A law that returns true, whatever its arguments, over the tables that its row lists. -/
theorem law_laid {C : Checked} {os : Os} {f : FuncId} {fn : Func} {s : ChangeSpec} {H : Type} {enc : TypeId × Value → H} (F : Stop.Interp) (S : List TypeId) (laid : List (String × DataW Unit))
    (own : ownKnob C.prog.godebug = none) (started : os.Started) (noInit : C.prog.inits.idxOf? f = none) (hfn : C.prog.funcs[f]? = some fn)
    (witness : ∃ (w : World) (tape : Tape) (i : Input), w.os = os ∧ (w.forCall tape i).Shaped C.prog ∧ i.vars = [] ∧ Input.okWide C.prog (w.forCall tape i) .any w.heap.size f i ∧
      (OpenSpec.ofChange s).preRow enc C.prog fn [] false laid (w.forCall tape i).memory i.args ∧ ({} : Assume).holds C.prog (lone (Frame.enter C.prog f i.args .normal) [] (w.forCall tape i)))
    (hvars : s.vars = []) (htypes : s.plain.varTypes C.prog = []) (hspec : ∀ ds : List (DataW H), ds.length = fn.params.size → s.fn H ds = { results := [.lit (.bool true)], args := ds })
    {tb : TypeId} (hres : fn.resultTypes = #[tb]) (hbool : C.prog.underlying tb = some .bool)
    (hl : laidOutB C.prog = true) (hS : closedSet C.prog S = true) (hpS : fn.params.toList.all (fun t => S.elem t && C.prog.readableRec t && decide (t < C.prog.types.size)) = true)
    (hct : ∀ args, TypedVs C.prog fn.params.toList args → Ct C.prog f args [] (.bool true) []) (htb : ∀ W, laidMetH C.prog laid W → W.ShapedOpen C.prog → Tab W (PrW W)) :
    ReturnsInHanded {} C os f .any ((OpenSpec.ofChange s).preRow enc C.prog fn [] false laid) (((OpenSpec.ofChange s).at F).post enc C.prog fn false true false false) := by
  refine returnsInHanded_of_row (C := C) (s := OpenSpec.ofChange s) own started noInit hfn witness ?_
  intro W base args ds gs before hval hW _ _ hsz hL hsh _
  replace hW : DataW.Whole enc C.prog fn.params.toList s.vars false W args.toList ds gs before := hW
  replace hsz : (DataW.weightsEach C.prog (fn.params.toList ++ s.plain.varTypes C.prog) (ds ++ gs)).all (· ≤ reachBytes) = true := hsz
  show Calls C.prog f args W fun e W' => ∃ v, e = .returned v ∧ s.post enc C.prog fn false true false false W args v W'
  have hW' := hW
  obtain ⟨p, q, hA, hV, rfl, hfz, hnd⟩ := hW
  rw [hvars] at hV
  rw [htypes] at hsz
  obtain ⟨rfl, rfl⟩ : gs = [] ∧ q = [] := by
    cases gs with
    | nil => exact ⟨rfl, hV⟩
    | cons g gs => exact hV.elim
  have hp := List.all_eq_true.1 hpS
  simp only [List.append_nil] at hsz
  have hlen : ds.length = fn.params.size := by
    have : ∀ (ts : List TypeId) (vs : List Value) (ds : List (DataW H)) (ps : List MemPlace), DataW.TrodAll enc C.prog W 0 (fun _ => true) true ts vs ds ps → ds.length = ts.length := by
      intro ts
      induction ts with
      | nil => intro vs ds ps h; obtain ⟨_, rfl, _⟩ := trodAll_nil h; rfl
      | cons t ts ih => intro vs ds ps h; obtain ⟨_, _, _, _, _, _, _, rfl, _, _, h2⟩ := trodAll_cons h; simp [ih _ _ _ h2]
    simpa using this _ _ _ _ hA
  obtain ⟨xs, r1, r2⟩ := trod_args (S := S) hS (fun t ht => by have := hp t ht; simp only [Bool.and_eq_true] at this; simpa using this.1.1)
    (fun j t v hj hj' => ⟨base, hval j t v (by simpa using hj) (by simpa using hj')⟩) hA (fun x hx => by have := List.all_eq_true.1 hsz x hx; simpa using this)
  refine ((hct xs r2).law r1 (htb W hL hsh)).mono fun e W' ⟨he, bel⟩ => ?_
  subst he
  have hlt : ∀ x ∈ p, x.block < W.heap.size := fun x hx => hW'.lt x (by simpa using hx)
  refine ⟨_, rfl, ds, [], p ++ [], [], p, [], hW', ?_, ?_, ?_, bel.frame _, fun h => by cases h⟩
  · rw [List.append_nil, hspec ds hlen, hres]
    exact trodAll_mk1 (shut_bool hbool _)
  · rw [List.append_nil, hspec ds hlen]
    exact trodAll_kept hl bel (fun t ht => by have := hp t ht; simp only [Bool.and_eq_true, decide_eq_true_eq] at this; exact ⟨this.1.2, this.2⟩) hA hlt
  · rw [List.append_nil, hspec ds hlen, hvars]
    rfl
theorem tab_utf8 {W : World} {l : List (String × DataW Unit)} (hL : laidMetH Tryz.prog l W) (hn : (l.filter fun x => x.2.handleName?.isSome) = []) (h1 : ("unicode/utf8.first", Lib.firstData) ∈ l) (h2 : ("unicode/utf8.acceptRanges", Lib.acceptData) ∈ l) (hsh : W.ShapedOpen Tryz.prog) : Tab W (PrW W) := by
  have hM : laidMet Tryz.prog l W := by unfold laidMetH at hL; rw [hn] at hL; exact hL
  have hu : Lib.Utf8Tabs 1 2 W :=
    utf8Tabs_of_readsT (U8Types.of196 Tryz.lays196) ⟨by kernel_rfl, by kernel_rfl, by kernel_rfl, by kernel_rfl, by kernel_rfl, by kernel_rfl, by kernel_rfl⟩ (Lib.laidMet.reads hM h1) (Lib.laidMet.reads hM h2)
  refine tab_of_cells (fun x hx => ?_) (fun a ha => ?_)
  · rcases List.mem_append.1 hx with hx | hx
    · obtain ⟨c, hc, rfl⟩ := List.mem_map.1 hx
      exact hu.1 c (List.mem_range.1 hc)
    · obtain ⟨i, hi, hx⟩ := List.mem_flatMap.1 hx
      have := hu.2 i (List.mem_range.1 hi)
      simp only [List.mem_cons, List.mem_nil_iff, or_false] at hx
      rcases hx with rfl | rfl
      · exact this.1
      · exact this.2
  · simp only [tabInts, List.mem_cons, List.mem_nil_iff, or_false] at ha
    subst ha
    exact cell_of_shapedOpen_int (k := .i64) (t := 3) (zero := #[.int .i64 0]) hsh (of_decide_eq_true (by kernel_rfl)) (by kernel_rfl) rfl (by kernel_rfl) (by kernel_rfl) (by kernel_rfl)
end Go.Proofs.YtkefgpmnimpcdaaGreatDoor.Abs
