/- Two operations, of which one only reads, in either order. No condition. -/
import Derived.Test.YtkpdlbidadcdjaaDoorAbsV
set_option linter.unusedVariables false
set_option linter.unusedSectionVars false
set_option linter.unusedSimpArgs false
namespace Go.Proofs.YtkpdlbidadcdjaaDoor.Abs
open Go

section
variable {A : Nat → Prop} {P : Program} {fi : FI} [hq : Quiet fi] {m kd : Bool} {gd : Option Bool} {dst : Option Nat} {s s' s0 st st' : St} {ops : List Oper}

theorem un_const {v : AC} {c : Prop} (h : un gd v fun _ => c) : c := by
  cases v with
  | opt g v => exact h.2
  | nam y v => exact h
  | _ => exact h
theorem wT_const' {x : Operand} {c : Prop} (h : wT fi m gd st x fun _ _ => c) : c := by
  cases x with
  | tmp t =>
    have h : un gd (st.get t) fun v => if m && fi.tk.elem t then c else c := h
    simp only [ite_self] at h
    exact un_const h
  | _ => exact h
theorem wTs_const {c : Prop} : ∀ {l : List Operand} {st : St}, wTs fi m gd l st (fun _ _ => c) → c := by
  intro l
  induction l with
  | nil => intro st h; exact h
  | cons x l ih =>
    intro st h
    have h : wT fi m gd st x (fun v st => wTs fi m gd l st fun vs st => c) := h
    exact wT_const' (wT_rel (A := fun _ => True) (s' := st) ⟨fun _ _ => ⟨rfl, rfl⟩, rfl⟩ (fun _ _ => trivial) (fun _ _ _ _ _ _ hh => ih hh) h)

theorem wXs_mono {k k' : List AC → Prop} (h : ∀ vs, k vs → k' vs) : ∀ {l : List Operand}, wXs gd st l k → wXs gd st l k' := by
  intro l
  induction l generalizing k k' with
  | nil => intro hh; exact h _ hh
  | cons x l ih => intro hh; exact un_mono (fun u hu => ih (fun vs hv => h _ hv) hu) hh
theorem wXs_const {c : Prop} : ∀ {l : List Operand}, wXs gd st l (fun _ => c) → c := by
  intro l
  induction l with
  | nil => intro h; exact h
  | cons x l ih => intro h; exact un_const (un_mono (fun u hu => ih hu) h)
theorem isQ_not {op : Go.Op} (h : qOk fi dst op = false) : isQ fi dst op = none := by
  unfold isQ
  split
  · rw [if_neg (by rw [h]; simp)]
  · rfl
theorem isQ_some {op : Go.Op} {f : Operand} {args : List Operand} {r : AC} (h : isQ fi dst op = some (f, args, r)) : (∃ a ts, op = .call ⟨.value f, a, ts⟩ ∧ a.toList = args) ∧ args.all (noTk fi) = true ∧ qOk fi dst op = true := by
  unfold isQ at h
  split at h
  · rename_i f' a ts
    split at h
    · rename_i hq
      cases h
      refine ⟨⟨_, _, rfl, rfl⟩, ?_, hq⟩
      simp only [qOk] at hq
      cases dst with
      | none => simp at hq
      | some d => simp only [Bool.and_eq_true] at hq; exact hq.2
    · cases h
  · cases h
theorem isQ_len {op : Go.Op} (h : qOk fi dst op = true) : isLen op = none := by
  unfold qOk at h
  split at h
  · rfl
  · cases h
/-- What is asked behind an operation, whatever it yields, holds. -/
theorem wDoD_const {op : Go.Op} {c : Prop} (h : wDoD P fi m gd dst op st fun _ _ => c) : c := by
  unfold wDoD at h
  split at h
  · refine un_const (un_mono (fun u hu => ?_) h)
    unfold wLenD at hu
    split at hu
    · exact hu
    · exact hu
    · exact hu.elim
  · rename_i hlen
    split at h
    · rename_i f args r hQ
      refine un_const (un_mono (fun u hu => ?_) h)
      cases u with
      | fn g caps => exact (wXs_const (gd := gd) (st := st) (l := args) (wXs_mono (fun vs hv => hv.2) hu))
      | _ => exact hu.elim
    rename_i hQ0; clear hQ0
    by_cases hf : floats fi dst op = true
    · obtain ⟨p, av, hfix⟩ := floats_fix (P := P) (m := m) (gd := gd) (s0 := st) hf
      exact ((hfix st ⟨fun x _ => rfl, fun _ => rfl⟩ _).1 h).2
    · unfold wDo at h
      split at h
      case h_1 x =>
        cases x with
        | tmp t =>
          replace h : wD_move P fi m gd dst (.tmp t) st (fun _ _ => c) := h
          simp only [wD_move] at h
          split at h
          · exact un_const h
          · revert h
            generalize st.get t = z
            intro h
            cases z with
            | nam y v => simp only [ite_self] at h; exact h
            | opt g v => exact h.2
            | _ => exact h
        | _ => exact h
      case h_2 x => exact wT_const' h
      case h_4 t =>
        have h := h.2
        split at h
        · exact h.2
        · exact h.elim
      case h_5 t x =>
        refine wT_const' (wT_rel (A := fun _ => True) (s' := st) ⟨fun _ _ => ⟨rfl, rfl⟩, rfl⟩ (fun _ _ => trivial) (fun v s1 s1' _ _ _ hh => ?_) h.2)
        split at hh
        · exact hh.elim
        · exact hh.elim
        · exact hh.2
        · exact hh.elim
      case h_6 t ps =>
        refine wTs_const (wTs_rel (A := fun _ => True) (s' := st) ⟨fun _ _ => ⟨rfl, rfl⟩, rfl⟩ (fun _ _ => trivial) (fun v s1 s1' _ _ _ hh => ?_) h)
        split at hh
        · have hh := hh.2.2
          split at hh
          · exact hh
          · exact hh.elim
        · exact hh.elim
      case h_7 t n ps =>
        refine wTs_const (wTs_rel (A := fun _ => True) (s' := st) ⟨fun _ _ => ⟨rfl, rfl⟩, rfl⟩ (fun _ _ => trivial) (fun v s1 s1' _ _ _ hh => ?_) h)
        split at hh
        · have hh := hh.2.2
          split at hh
          · have hh := hh.2.2
            split at hh
            · exact hh.2
            · exact hh.elim
          · exact hh.elim
        · exact hh.elim
      case h_8 t x =>
        refine un_const (un_mono (fun u hu => ?_) h.2.2)
        cases u with
        | ptr u i off =>
          cases hb : getBox st.K u i with
          | none => simp only [hb] at hu
          | some cells =>
            simp only [hb, hq.es, Bool.and_false, Bool.false_and, Bool.false_eq_true, if_false, ite_self] at hu
            exact hu.2
        | ref cells => exact hu.2
        | ept q y o => have := hu.1; rw [hq.es] at this; cases this
        | _ => exact hu.elim
      case h_9 t a x =>
        refine un_const (un_mono (fun p hp => ?_) h.2.2.2)
        refine wT_const' (wT_rel (A := fun _ => True) (s' := st) ⟨fun _ _ => ⟨rfl, rfl⟩, rfl⟩ (fun _ _ => trivial) (fun v s1 s1' _ _ _ hh => ?_) hp)
        cases p with
        | ptr u i off =>
          cases hb : getBox s1.K u i with
          | none => simp only [hb] at hh
          | some cells =>
            simp only [hb] at hh
            have hh := hh.2.2.2
            split at hh
            · exact hh
            · exact hh.elim
        | ept q y o => have := hh.1; rw [hq.es] at this; cases this
        | _ => exact hh.elim
      case h_11 o t x y t' =>
        have hny : isNilC y = true := by simpa [floats] using hf
        unfold wD_binOp at h
        rw [if_pos hny] at h
        refine un_const (un_mono (fun u hu => ?_) h)
        unfold nilCmp at hu
        split at hu
        · exact hu.2 false (fun h => by cases h)
        · exact hu.2 true (fun h => by cases h)
        · exact hu.elim
      case h_21 x i =>
        refine un_const (un_mono (fun u hu => ?_) h)
        cases u with
        | tup vs =>
          cases hv : vs[i]? with
          | none => simp only [hv] at hu
          | some v =>
            simp only [hv] at hu
            split at hu
            · cases x with
              | tmp t => exact hu
              | _ => exact hu.elim
            · exact hu
        | _ => exact hu.elim
      case h_22 cl =>
        obtain ⟨cal, args, ts⟩ := cl
        cases cal with
        | value f =>
          refine un_const (un_mono (fun u hu => ?_) h)
          cases u with
          | fn g caps =>
            have hb : (m && fi.bw.elem g) = false := by rw [hq.bw]; simp
            simp only [hb, Bool.false_eq_true, if_false] at hu
            refine wTs_const (wTs_rel (A := fun _ => True) (s' := st) ⟨fun _ _ => ⟨rfl, rfl⟩, rfl⟩ (fun _ _ => trivial) (fun v s1 s1' _ _ _ hh => ?_) hu)
            unfold callK at hh
            split at hh
            · obtain ⟨_, _, _, hh⟩ := hh; exact hh
            · obtain ⟨_, _, hh⟩ := hh; exact hh
          | _ => exact hu.elim
        | invoke r me => exact h.elim
        | builtin b =>
          replace h : wBuiltin P fi m (fi.keeps dst) gd b args.toList ts.toList st (fun _ _ => c) := h
          unfold wBuiltin at h
          split at h
          · rename_i x t ts' h1 h2
            simp only [isLen, h1, h2] at hlen
            cases hlen
          · replace h := h.2
            split at h
            · refine wT_const' (wT_rel (A := fun _ => True) (s' := St.weak st _) ⟨fun _ _ => ⟨rfl, rfl⟩, rfl⟩ (fun _ _ => trivial) (fun v s1 s1' _ _ _ hh => ?_) h)
              unfold wAppendS at hh
              split at hh
              · split at hh
                · exact hh.2.2.2.2
                · exact hh.elim
              · exact hh.elim
            · refine wT_const' (wT_rel (A := fun _ => True) (s' := St.weak st _) ⟨fun _ _ => ⟨rfl, rfl⟩, rfl⟩ (fun _ _ => trivial) (fun v s1 s1' _ _ _ hh => ?_) h.2)
              unfold wAppend at hh
              split at hh
              · split at hh
                · exact hh.2.2.2.2.2
                · exact hh.elim
              · split at hh
                · exact hh.2.2.2.2.2
                · exact hh.elim
              · exact hh.elim
          · exact h.elim
      all_goals first | (exact h.elim; done) | (exact absurd rfl hf; done) | (simp [floats] at hf; done)
end
end Go.Proofs.YtkpdlbidadcdjaaDoor.Abs
