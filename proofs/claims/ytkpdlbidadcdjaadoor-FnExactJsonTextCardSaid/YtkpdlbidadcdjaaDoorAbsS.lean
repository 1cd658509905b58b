/- A law's row, by the law's contract. No condition. -/
import Derived.Test.YtkpdlbidadcdjaaDoorAbsR
import Derived.ProofKit
import Derived.OpenShut
import Derived.ShutString
import Derived.ChangeOld
import Derived.Below
import Derived.SizedLaws
import Derived.WalkKit
set_option linter.unusedVariables false
set_option linter.unusedSimpArgs false
namespace Go.Proofs.YtkpdlbidadcdjaaDoor.Abs
open Go
open Go.ChangeShapes Go.WideShapes Go.ChangeAt Go.RowKit

/-- One argument: data of its type. -/
inductive TypedV (P : Program) : TypeId → AC → Prop
  | agg {t fs cells} : P.underlying t = some (.struct fs) → Typed P t cells → TypedV P t (.agg cells)
  | one {t v} : (∀ fs, P.underlying t ≠ some (.struct fs)) → Typed P t [v] → TypedV P t v

/-- All arguments. -/
inductive TypedVs (P : Program) : List TypeId → List AC → Prop
  | nil : TypedVs P [] []
  | cons {t ts v vs} : TypedV P t v → TypedVs P ts vs → TypedVs P (t :: ts) (v :: vs)

section
variable {H : Type} {enc : TypeId × Value → H} {P : Program} {W : World}

theorem trod_arg {S : List TypeId} (hS : closedSet P S = true) {t : TypeId} {v : Value} {d : DataW H} {ps : List MemPlace} {base : Nat} (ht : t ∈ S) (hval : Value.okWide P W .any base t v)
    (h : DataW.Trod enc P W 0 (fun _ => true) true t v d ps) (hw : ∀ x ∈ d.weights P t, x ≤ reachBytes) : ∃ a, Rep P W (PrW W) [] a v [] ∧ TypedV P t a := by
  obtain ⟨fuel, h⟩ := h
  obtain ⟨acs, h1, h2, h3⟩ := trod_typed hS fuel t _ d ps ht h hw
  by_cases hst : ∃ fs, P.underlying t = some (.struct fs)
  · obtain ⟨fs, hu⟩ := hst
    obtain ⟨cs, rfl, hcs⟩ := okWide_struct hu hval
    refine ⟨.agg acs, ?_, .agg hu h3⟩
    have := Rep.agg h1 h2
    simpa [Value.cells] using this
  · have hone : ∀ {x : Value}, v = x → v.cells = #[v] → ∃ a, Rep P W (PrW W) [] a v [] ∧ TypedV P t a := by
      intro x _ hc
      rw [hc] at h1
      generalize hL : ([] : List Nat) = L at h1
      cases h1 with
      | cons g1 g2 =>
        rename_i a as L1 M
        cases g2
        have hL1 : L1 = [] := by simpa using hL.symm
        subst hL1
        exact ⟨a, g1, .one (fun fs hf => hst ⟨fs, hf⟩) h3⟩
    have hc := List.all_eq_true.1 hS t ht
    split at hc
    · rename_i hu; obtain ⟨b, rfl⟩ := okWide_bool hu hval; exact hone rfl rfl
    · rename_i hu; obtain ⟨b, rfl⟩ := okWide_int hu hval; exact hone rfl rfl
    · rename_i hu; obtain ⟨b, rfl⟩ := okWide_string hu hval; exact hone rfl rfl
    · rename_i hu; obtain ⟨a, l, c, rfl⟩ := okWide_slice hu hval; exact hone rfl rfl
    · rename_i fs hu; exact absurd ⟨fs, hu⟩ hst
    · cases hc

theorem trod_args {S : List TypeId} (hS : closedSet P S = true) : ∀ {ts : List TypeId} {vs : List Value} {ds : List (DataW H)} {ps : List MemPlace}, (∀ t ∈ ts, t ∈ S) →
    (∀ (j : Nat) t v, ts[j]? = some t → vs[j]? = some v → ∃ base, Value.okWide P W .any base t v) → DataW.TrodAll enc P W 0 (fun _ => true) true ts vs ds ps →
    (∀ x ∈ DataW.weightsEach P ts ds, x ≤ reachBytes) → ∃ as, Reps P W (PrW W) [] as vs [] ∧ TypedVs P ts as := by
  intro ts
  induction ts with
  | nil =>
    intro vs ds ps _ _ h _
    obtain ⟨rfl, rfl, rfl⟩ := trodAll_nil h
    exact ⟨[], .nil, .nil⟩
  | cons t ts ih =>
    intro vs ds ps hS' hval h hw
    obtain ⟨v, vs', d, ds', p, q, rfl, rfl, rfl, h1, h2⟩ := trodAll_cons h
    rw [DataW.weightsEach] at hw
    obtain ⟨base, hv⟩ := hval 0 t v rfl rfl
    obtain ⟨a, a1, a2⟩ := trod_arg hS (hS' t List.mem_cons_self) hv h1 (fun x hx => hw x (List.mem_append_left _ hx))
    obtain ⟨as, b1, b2⟩ := ih (fun t ht => hS' t (List.mem_cons_of_mem _ ht)) (fun j t v hj hj' => hval (j + 1) t v (by simpa using hj) (by simpa using hj')) h2 (fun x hx => hw x (List.mem_append_right _ hx))
    exact ⟨a :: as, by simpa using Reps.cons a1 b1, .cons a2 b2⟩

theorem trodAll_kept (hl : laidOutB P = true) {W' : World} (hb : Below W.heap.size W W') : ∀ {ts : List TypeId} {vs : List Value} {ds : List (DataW H)} {ps : List MemPlace}, (∀ t ∈ ts, P.readableRec t = true ∧ t < P.types.size) →
    DataW.TrodAll enc P W 0 (fun _ => true) true ts vs ds ps → (∀ x ∈ ps, x.block < W.heap.size) → DataW.TrodAll enc P W' 0 (fun b => decide (b < W.heap.size)) true ts vs ds ps := by
  intro ts
  induction ts with
  | nil =>
    intro vs ds ps _ h _
    obtain ⟨rfl, rfl, rfl⟩ := trodAll_nil h
    rfl
  | cons t ts ih =>
    intro vs ds ps hr h hlt
    obtain ⟨v, vs', d, ds', p, q, rfl, rfl, rfl, h1, h2⟩ := trodAll_cons h
    obtain ⟨r1, r2⟩ := hr t List.mem_cons_self
    exact ⟨p, q, Below.trod hl r1 r2 h1 hb (fun x hx => hlt x (List.mem_append_left _ hx)), ih (fun t ht => hr t (List.mem_cons_of_mem _ ht)) h2 (fun x hx => hlt x (List.mem_append_right _ hx)), rfl⟩

/-- What a law's contract says of the world. -/
theorem Ct.law {f : FuncId} {args : List AC} {b : Bool} {vals : List Value} (h : Ct P f args [] (.bool b) []) (hr : Reps P W (PrW W) [] args vals []) (htab : Tab W (PrW W)) :
    Calls P f vals.toArray W fun e W' => e = .returned (.bool b) ∧ Below W.heap.size W W' := by
  refine (h.2 W (PrW W) [] vals [] [] hr ⟨rfl, rfl⟩ (by simp) (fun a ha => ha) htab).mono fun e W' ⟨v, Pr', Lr, Lk', bl', he, _, hv, _, _, _, _, hs⟩ => ?_
  cases hv
  exact ⟨he, hs.os, hs.tape, hs.output, hs.size, fun k hk => hs.block k hk (by simp)⟩
end

set_option maxRecDepth 100000 in
/-- A law that returns true, whatever its arguments. -/
theorem law_returns {C : Checked} {os : Os} {f : FuncId} {fn : Func} {s : ChangeSpec} {conds : List PathCond} {H : Type} {enc : TypeId × Value → H} (S : List TypeId)
    (own : ownKnob C.prog.godebug = none) (started : os.Started) (noInit : C.prog.inits.idxOf? f = none) (hfn : C.prog.funcs[f]? = some fn)
    (witness : ∃ (w : World) (tape : Tape) (i : Input), w.os = os ∧ (w.forCall tape i).Shaped C.prog ∧ i.vars = [] ∧ Input.okWide C.prog (w.forCall tape i) .any w.heap.size f i ∧
      s.pre6 enc C.prog fn conds false (w.forCall tape i).memory i.args ∧ ({} : Assume).holds C.prog (lone (Frame.enter C.prog f i.args .normal) [] (w.forCall tape i)))
    (hvars : s.vars = []) (htypes : s.plain.varTypes C.prog = []) (hspec : ∀ ds : List (DataW H), ds.length = fn.params.size → s.fn H ds = { results := [.lit (.bool true)], args := ds })
    {tb : TypeId} (hres : fn.resultTypes = #[tb]) (hbool : C.prog.underlying tb = some .bool)
    (hl : laidOutB C.prog = true) (hS : closedSet C.prog S = true) (hpS : fn.params.toList.all (fun t => S.elem t && C.prog.readableRec t && decide (t < C.prog.types.size)) = true)
    (hct : ∀ args, TypedVs C.prog fn.params.toList args → Ct C.prog f args [] (.bool true) []) (htb : tabs = [] ∧ tabInts = []) :
    ReturnsInHanded {} C os f .any (s.pre6 enc C.prog fn conds false) (s.post enc C.prog fn false true false false) := by
  refine returnsInHanded_of_change_sized own started noInit hfn witness ?_
  intro W base args ds gs before hval hW hcnd hsz _
  have hW' := hW
  obtain ⟨p, q, hA, hV, rfl, hfz, hnd⟩ := hW
  rw [hvars] at hV
  rw [htypes] at hsz
  obtain ⟨rfl, rfl⟩ : gs = [] ∧ q = [] := by
    cases gs with
    | nil => exact ⟨rfl, hV⟩
    | cons g gs => exact hV.elim
  have hp := List.all_eq_true.1 hpS
  simp only [List.append_nil] at hsz
  have hlen : ds.length = fn.params.size := by
    have : ∀ (ts : List TypeId) (vs : List Value) (ds : List (DataW H)) (ps : List MemPlace), DataW.TrodAll enc C.prog W 0 (fun _ => true) true ts vs ds ps → ds.length = ts.length := by
      intro ts
      induction ts with
      | nil => intro vs ds ps h; obtain ⟨_, rfl, _⟩ := trodAll_nil h; rfl
      | cons t ts ih => intro vs ds ps h; obtain ⟨_, _, _, _, _, _, _, rfl, _, _, h2⟩ := trodAll_cons h; simp [ih _ _ _ h2]
    simpa using this _ _ _ _ hA
  obtain ⟨as, r1, r2⟩ := trod_args (S := S) hS (fun t ht => by have := hp t ht; simp only [Bool.and_eq_true] at this; simpa using this.1.1)
    (fun j t v hj hj' => ⟨base, hval j t v (by simpa using hj) (by simpa using hj')⟩) hA (fun x hx => by have := List.all_eq_true.1 hsz x hx; simpa using this)
  refine ((hct as r2).law r1 ⟨fun x hx => (by rw [htb.1] at hx; cases hx), fun x hx => (by rw [htb.2] at hx; cases hx)⟩).mono fun e W' ⟨he, bel⟩ => ?_
  subst he
  have hlt : ∀ x ∈ p, x.block < W.heap.size := fun x hx => hW'.lt x (by simpa using hx)
  refine ⟨_, rfl, ds, [], p ++ [], [], p, [], hW', ?_, ?_, ?_, bel.frame _, fun h => by cases h⟩
  · rw [List.append_nil, hspec ds hlen, hres]
    exact trodAll_mk1 (shut_bool hbool _)
  · rw [List.append_nil, hspec ds hlen]
    exact trodAll_kept hl bel (fun t ht => by have := hp t ht; simp only [Bool.and_eq_true, decide_eq_true_eq] at this; exact ⟨this.1.2, this.2⟩) hA hlt
  · rw [List.append_nil, hspec ds hlen, hvars]
    rfl
end Go.Proofs.YtkpdlbidadcdjaaDoor.Abs
