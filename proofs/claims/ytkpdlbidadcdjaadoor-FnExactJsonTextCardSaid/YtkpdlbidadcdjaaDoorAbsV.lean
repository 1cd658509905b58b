/- What an operation does rests on its operands and on the boxes alone. No condition. -/
import Derived.Test.YtkpdlbidadcdjaaDoorAbsU
set_option linter.unusedVariables false
set_option linter.unusedSimpArgs false
namespace Go.Proofs.YtkpdlbidadcdjaaDoor.Abs
open Go

/-- Two states that agree on the slots of A, and on the boxes. -/
def Ag (A : Nat → Prop) (s s' : St) : Prop := (∀ t, A t → look t s.env = look t s'.env ∧ look t s.loc = look t s'.loc) ∧ s.K = s'.K
/-- Slots that are not among O are as they were. -/
def Fr (O : List Operand) (s0 s : St) : Prop := ∀ t, Operand.tmp t ∉ O → look t s.env = look t s0.env ∧ look t s.loc = look t s0.loc

section
variable {A : Nat → Prop} {P : Program} {fi : FI} {m : Bool} {gd : Option Bool} {dst : Option Nat} {s s' s0 : St}

theorem un_mono {v : AC} {k k' : AC → Prop} (h : ∀ u, k u → k' u) (hu : un gd v k) : un gd v k' := by
  cases v with
  | opt g v => exact ⟨hu.1, h _ hu.2⟩
  | nam y v => exact h _ hu
  | _ => exact h _ hu

theorem Fr.refl {O : List Operand} : Fr O s s := fun t _ => ⟨rfl, rfl⟩
theorem Fr.trans {O O' : List Operand} {s1 : St} (h : Fr O s0 s) (h' : Fr O' s s1) : Fr (O ++ O') s0 s1 := fun t ht => by
  rw [List.mem_append] at ht
  obtain ⟨a, b⟩ := h t (fun e => ht (.inl e))
  obtain ⟨c, d⟩ := h' t (fun e => ht (.inr e))
  exact ⟨c.trans a, d.trans b⟩
theorem Fr.mono {O O' : List Operand} (h : Fr O s0 s) (hs : ∀ x ∈ O, x ∈ O') : Fr O' s0 s := fun t ht => h t fun e => ht (hs _ e)

theorem look_setE' {k j : Nat} {v : AC} : ∀ {l : List (Nat × AC)}, look j (setE k v l) = if j = k then some v else look j l := by
  intro l
  induction l with
  | nil => simp only [setE, look]
  | cons x l ih =>
    obtain ⟨a, b⟩ := x
    simp only [setE]
    split
    · rename_i e; subst e; simp only [look]; split <;> rfl
    · rename_i e
      simp only [look, ih]
      split
      · rename_i e2; subst e2; rw [if_neg (fun h => e h.symm)]
      · rfl

theorem Ag.get {t : Nat} (h : Ag A s s') (ht : A t) : s.get t = s'.get t := by
  unfold St.get; rw [(h.1 t ht).1, (h.1 t ht).2]
theorem Ag.ev {x : Operand} (h : Ag A s s') (hx : ∀ t, x = .tmp t → A t) : s.ev x = s'.ev x := by
  cases x with
  | tmp t => exact h.get (hx t rfl)
  | _ => rfl
theorem Ag.weak {t : Nat} (h : Ag A s s') (ht : A t) : Ag A (s.weak t) (s'.weak t) := by
  obtain ⟨h1, h2⟩ := h
  obtain ⟨e1, e2⟩ := h1 t ht
  unfold St.weak
  rw [← e2]
  split
  · refine ⟨fun j hj => ⟨(h1 j hj).1, ?_⟩, h2⟩
    simp only [look_setE']
    rw [(h1 j hj).2]
  · rw [← e1]
    split
    · refine ⟨fun j hj => ⟨?_, (h1 j hj).2⟩, h2⟩
      simp only [look_setE']
      rw [(h1 j hj).1]
    · exact ⟨h1, h2⟩
theorem St.weak_K {t : Nat} : (s.weak t).K = s.K := by
  unfold St.weak; split
  · rfl
  · split <;> rfl
theorem Fr.weak {t : Nat} : Fr [.tmp t] s (s.weak t) := by
  intro j hj
  have hne : j ≠ t := fun e => hj (by simp [e])
  unfold St.weak
  split
  · refine ⟨rfl, ?_⟩; simp [look_setE', hne]
  · split
    · refine ⟨?_, rfl⟩; simp [look_setE', hne]
    · exact ⟨rfl, rfl⟩

theorem wT_rel {x : Operand} {k k' : AC → St → Prop} (h : Ag A s s') (hx : ∀ t, x = .tmp t → A t)
    (hk : ∀ v s1 s1', Ag A s1 s1' → Fr [x] s s1 → Fr [x] s' s1' → k v s1 → k' v s1') (hw : wT fi m gd s x k) : wT fi m gd s' x k' := by
  cases x with
  | tmp t =>
    have hw : un gd (s.get t) fun v => if m && fi.tk.elem t then k v (s.weak t) else k (share v) s := hw
    show un gd (s'.get t) fun v => if m && fi.tk.elem t then k' v (s'.weak t) else k' (share v) s'
    rw [← h.get (hx t rfl)]
    refine un_mono (fun u hu => ?_) hw
    split
    · rename_i hc; rw [if_pos hc] at hu; exact hk _ _ _ (h.weak (hx t rfl)) Fr.weak Fr.weak hu
    · rename_i hc; rw [if_neg hc] at hu; exact hk _ _ _ h Fr.refl Fr.refl hu
  | _ => exact hk _ _ _ h Fr.refl Fr.refl hw

theorem wTs_rel : ∀ {l : List Operand} {s s' : St} {k k' : List AC → St → Prop}, Ag A s s' → (∀ t, Operand.tmp t ∈ l → A t) →
    (∀ v s1 s1', Ag A s1 s1' → Fr l s s1 → Fr l s' s1' → k v s1 → k' v s1') → wTs fi m gd l s k → wTs fi m gd l s' k' := by
  intro l
  induction l with
  | nil => intro s s' k k' h _ hk hw; exact hk _ _ _ h Fr.refl Fr.refl hw
  | cons x l ih =>
    intro s s' k k' h hx hk hw
    have hw : wT fi m gd s x (fun v st => wTs fi m gd l st fun vs st => k (v :: vs) st) := hw
    refine wT_rel (k' := fun v st => wTs fi m gd l st fun vs st => k' (v :: vs) st) h (fun t e => hx t (by simp [e])) (fun v s1 s1' h1 f1 f1' hw1 => ?_) hw
    exact ih h1 (fun t ht => hx t (List.mem_cons_of_mem _ ht)) (fun vs s2 s2' h2 f2 f2' hh => hk _ _ _ h2 (f1.trans f2) (f1'.trans f2') hh) hw1

theorem Ag.setK {K1 : List (List (List AC))} (h : Ag A s s') : Ag A { s with K := K1 } { s' with K := K1 } := ⟨h.1, rfl⟩
theorem Fr.setK {O : List Operand} {K1 : List (List (List AC))} (h : Fr O s0 s) : Fr O s0 { s with K := K1 } := h

/-- An operation sees its operands and the boxes. -/
theorem Ag.setAt {t : Nat} {v : AC} (h : Ag A s s') (ht : A t) : Ag A (s.setAt t v) (s'.setAt t v) := by
  obtain ⟨h1, h2⟩ := h
  obtain ⟨e1, e2⟩ := h1 t ht
  unfold St.setAt
  rw [← e2]
  split
  · refine ⟨fun j hj => ⟨(h1 j hj).1, ?_⟩, h2⟩
    simp only [look_setE']
    rw [(h1 j hj).2]
  · refine ⟨fun j hj => ⟨?_, (h1 j hj).2⟩, h2⟩
    simp only [look_setE']
    rw [(h1 j hj).1]
theorem Fr.setAt {t : Nat} {v : AC} : Fr [.tmp t] s (s.setAt t v) := by
  intro j hj
  have hne : j ≠ t := fun e => hj (by simp [e])
  unfold St.setAt
  split
  · refine ⟨rfl, ?_⟩; simp [look_setE', hne]
  · refine ⟨?_, rfl⟩; simp [look_setE', hne]

theorem wDo_rel [hq : Quiet fi] {op : Go.Op} {k k' : AC → St → Prop} (h : Ag A s s') (hO : ∀ t, Operand.tmp t ∈ op.operands → A t)
    (hk : ∀ v s1 s1', Ag A s1 s1' → Fr op.operands.toList s s1 → Fr op.operands.toList s' s1' → k v s1 → k' v s1') (hw : wDo P fi m gd dst op s k) : wDo P fi m gd dst op s' k' := by
  by_cases hf : floats fi dst op = true
  · obtain ⟨p, av, hfix⟩ := floats_fix (P := P) (m := m) (gd := gd) (s0 := s) hf
    have h1 := (hfix s ⟨fun x _ => rfl, fun _ => rfl⟩ k).1 hw
    exact (hfix s' ⟨fun x hx => (h.ev fun t e => hO t (by rw [← e]; exact hx)).symm, fun _ => h.2.symm⟩ k').2 ⟨h1.1, hk _ _ _ h Fr.refl Fr.refl h1.2⟩
  · unfold wDo at hw
    split at hw
    case h_1 x =>
      cases x with
      | tmp t =>
        have ht := hO t (by simp [Op.operands])
        replace hw : wD_move P fi m gd dst (.tmp t) s k := hw
        show wD_move P fi m gd dst (.tmp t) s' k'
        simp only [wD_move] at hw ⊢
        rw [← h.get ht]
        split
        · rename_i hc; rw [if_pos hc] at hw
          refine un_mono (fun u hu => ?_) hw
          exact hk _ _ _ (h.weak ht) (by simpa [Op.operands] using Fr.weak) (by simpa [Op.operands] using Fr.weak) hu
        · rename_i hc; rw [if_neg hc] at hw
          revert hw
          generalize s.get t = z
          intro hw
          cases z with
          | nam y v =>
            simp only at hw ⊢
            split
            · rename_i hX; rw [if_pos hX] at hw; exact hk _ _ _ h Fr.refl Fr.refl hw
            · rename_i hX; rw [if_neg hX] at hw; exact hk _ _ _ h Fr.refl Fr.refl hw
          | opt g v => exact ⟨hw.1, hk _ _ _ h Fr.refl Fr.refl hw.2⟩
          | _ => exact hk _ _ _ h Fr.refl Fr.refl hw
      | _ => exact hk _ _ _ h Fr.refl Fr.refl hw
    case h_2 x => exact wT_rel h (fun t e => hO t (by simp [Op.operands, e])) (by simpa [Op.operands] using hk) hw
    case h_3 => simp [floats] at hf
    case h_4 t =>
      have hw : m = true ∧ _ := hw
      refine ⟨hw.1, ?_⟩
      have hw := hw.2
      rw [← h.2]
      split at hw
      · exact ⟨hw.1, hk _ _ _ h.setK Fr.refl.setK Fr.refl.setK hw.2⟩
      · exact hw.elim
    case h_5 t x =>
      have hw : m = true ∧ _ := hw
      refine ⟨hw.1, ?_⟩
      refine wT_rel h (fun t e => hO t (by simp [Op.operands, e])) (fun v s1 s1' h1 f1 f1' hh => ?_) hw.2
      rw [← h1.2]
      split at hh
      · exact hh.elim
      · exact hh.elim
      · exact ⟨hh.1, hk _ _ _ h1.setK (by simpa [Op.operands] using f1.setK) (by simpa [Op.operands] using f1'.setK) hh.2⟩
      · exact hh.elim
    case h_6 t ps =>
      refine wTs_rel h (fun t e => hO t (by simpa [Op.operands] using e)) (fun vs s1 s1' h1 f1 f1' hh => ?_) hw
      split at hh
      · refine ⟨hh.1, hh.2.1, ?_⟩
        have hh := hh.2.2
        split at hh
        · exact hk _ _ _ h1 (by simpa [Op.operands] using f1) (by simpa [Op.operands] using f1') hh
        · exact hh.elim
      · exact hh.elim
    case h_7 t n ps =>
      refine wTs_rel h (fun t e => hO t (by simpa [Op.operands] using e)) (fun vs s1 s1' h1 f1 f1' hh => ?_) hw
      split at hh
      · refine ⟨hh.1, hh.2.1, ?_⟩
        have hh := hh.2.2
        split at hh
        · refine ⟨hh.1, hh.2.1, ?_⟩
          have hh := hh.2.2
          split at hh
          · exact ⟨hh.1, hk _ _ _ h1 (by simpa [Op.operands] using f1) (by simpa [Op.operands] using f1') hh.2⟩
          · exact hh.elim
        · exact hh.elim
      · exact hh.elim
    case h_8 t x =>
      have hx : s.ev x = s'.ev x := h.ev fun t e => hO t (by simp [Op.operands, e])
      refine ⟨hw.1, hw.2.1, ?_⟩
      have hw := hw.2.2
      rw [← hx, ← h.2]
      refine un_mono (fun u hu => ?_) hw
      cases u with
      | ptr u i off =>
        cases hb : getBox s.K u i with
        | none => simp only [hb] at hu
        | some cells =>
          simp only [hb] at hu ⊢
          refine ⟨hu.1, ?_⟩
          have hu := hu.2
          rw [if_neg (by simp [hq.es])] at hu ⊢
          split
          · rename_i hc; rw [if_pos hc] at hu; exact hk _ _ _ h.setK Fr.refl.setK Fr.refl.setK hu
          · rename_i hc; rw [if_neg hc] at hu; exact hk _ _ _ h Fr.refl Fr.refl hu
      | ref cells => exact ⟨hu.1, hk _ _ _ h Fr.refl Fr.refl hu.2⟩
      | ept q y o => have := hu.1; rw [hq.es] at this; cases this
      | _ => exact hu.elim
    case h_9 t a x =>
      have ha : s.ev a = s'.ev a := h.ev fun t e => hO t (by simp [Op.operands, e])
      refine ⟨hw.1, hw.2.1, hw.2.2.1, ?_⟩
      have hw := hw.2.2.2
      rw [← ha]
      refine un_mono (fun p hp => ?_) hw
      refine wT_rel h (fun t e => hO t (by simp [Op.operands, e])) (fun v s1 s1' h1 f1 f1' hh => ?_) hp
      have g1 : Fr (Op.store t a x).operands.toList s s1 := f1.mono (by simp [Op.operands])
      have g1' : Fr (Op.store t a x).operands.toList s' s1' := f1'.mono (by simp [Op.operands])
      cases p with
      | ptr u i off =>
        simp only [← h1.2]
        cases hb : getBox s1.K u i with
        | none => simp only [hb] at hh
        | some cells =>
          simp only [hb] at hh ⊢
          refine ⟨hh.1, hh.2.1, hh.2.2.1, ?_⟩
          have hh := hh.2.2.2
          split
          · rename_i new hn
            simp only [hn] at hh
            exact hk _ _ _ h1.setK g1.setK g1'.setK hh
          · rename_i hn
            simp only [hn] at hh
      | ept q y o => have := hh.1; rw [hq.es] at this; cases this
      | _ => exact hh.elim
    case h_11 o t x y t' =>
      have hny : isNilC y = true := by simpa [floats] using hf
      replace hw : wD_binOp P fi m gd dst o t x y t' s k := hw
      show wD_binOp P fi m gd dst o t x y t' s' k'
      unfold wD_binOp at hw ⊢
      rw [if_pos hny] at hw ⊢
      have hx : s.ev x = s'.ev x := h.ev fun t e => hO t (by simp [Op.operands, e])
      rw [← hx]
      refine un_mono (fun u hu => ?_) hw
      unfold nilCmp at hu ⊢
      split at hu
      · exact ⟨hu.1, fun b hb => hk _ _ _ h Fr.refl Fr.refl (hu.2 b hb)⟩
      · exact ⟨hu.1, fun b hb => hk _ _ _ h Fr.refl Fr.refl (hu.2 b hb)⟩
      · exact hu.elim
    case h_21 x i =>
      simp only [floats, Bool.not_eq_true', Bool.not_eq_false] at hf
      have hx : s.ev x = s'.ev x := h.ev fun t e => hO t (by simp [Op.operands, e])
      show un gd (s'.ev x) _
      rw [← hx]
      refine un_mono (fun u hu => ?_) hw
      cases u with
      | tup vs =>
        cases hv : vs[i]? with
        | none => simp only [hv] at hu
        | some v =>
          simp only [hv] at hu ⊢
          split
          · rename_i hc; rw [if_pos hc] at hu
            cases x with
            | tmp t =>
              exact hk _ _ _ (h.setAt (hO t (by simp [Op.operands]))) (by simpa [Op.operands] using Fr.setAt) (by simpa [Op.operands] using Fr.setAt) hu
            | _ => exact hu.elim
          · rename_i hc; rw [if_neg hc] at hu; exact hk _ _ _ h Fr.refl Fr.refl hu
      | _ => exact hu.elim
    case h_22 c =>
      obtain ⟨cal, args, ts⟩ := c
      cases cal with
      | value f =>
        have hx : s.ev f = s'.ev f := h.ev fun t e => hO t (by simp [Op.operands, Call.operands, e])
        show un gd (s'.ev f) _
        rw [← hx]
        refine un_mono (fun u hu => ?_) hw
        cases u with
        | fn g caps =>
          have hb : (m && fi.bw.elem g) = false := by rw [hq.bw]; simp
          simp only [hb, Bool.false_eq_true, if_false] at hu ⊢
          refine wTs_rel h (fun t e => hO t (by simp [Op.operands, Call.operands]; exact .inr (by simpa using e))) (fun vs s1 s1' h1 f1 f1' hh => ?_) hu
          have g1 : Fr (Op.call ⟨.value f, args, ts⟩).operands.toList s s1 := f1.mono (by intro x hx; simp [Op.operands, Call.operands]; exact .inr (by simpa using hx))
          have g1' : Fr (Op.call ⟨.value f, args, ts⟩).operands.toList s' s1' := f1'.mono (by intro x hx; simp [Op.operands, Call.operands]; exact .inr (by simpa using hx))
          unfold callK at hh ⊢
          rw [← h1.2]
          split
          · rename_i hc; rw [if_pos hc] at hh
            obtain ⟨r, K', hct, hh⟩ := hh
            exact ⟨r, K', hct, hk _ _ _ h1.setK g1.setK g1'.setK hh⟩
          · rename_i hc; rw [if_neg hc] at hh
            obtain ⟨r, hct, hh⟩ := hh
            exact ⟨r, hct, hk _ _ _ h1 g1 g1' hh⟩
        | _ => exact hu.elim
      | invoke r me => exact hw.elim
      | builtin b =>
        have hops : ∀ x ∈ args.toList, x ∈ (Op.call ⟨.builtin b, args, ts⟩).operands.toList := by
          intro x hx; simp [Op.operands, Call.operands]; simpa using hx
        replace hw : wBuiltin P fi m (fi.keeps dst) gd b args.toList ts.toList s k := hw
        show wBuiltin P fi m (fi.keeps dst) gd b args.toList ts.toList s' k'
        generalize args.toList = al at hw hops
        generalize ts.toList = tl at hw
        unfold wBuiltin at hw
        split at hw
        · rename_i x t ts'
          have hx : s.ev x = s'.ev x := h.ev fun t e => hO t (by have := hops x (by simp); rw [e] at this; simpa using this)
          show un gd (s'.ev x) _
          rw [← hx]
          refine un_mono (fun u hu => ?_) hw
          unfold wLen at hu ⊢
          split at hu
          · exact fun hl => hk _ _ _ h Fr.refl Fr.refl (hu hl)
          · exact fun hl => hk _ _ _ h Fr.refl Fr.refl (hu hl)
          · exact fun hl => hk _ _ _ h Fr.refl Fr.refl (hu hl)
          · exact hu.elim
        · rename_i t x t1 t2
          have ht : A t := hO t (by have := hops (.tmp t) (by simp); simpa using this)
          refine ⟨hw.1, ?_⟩
          have hw := hw.2
          split at hw
          · rename_i htd
            rw [← h.get ht]
            refine wT_rel (h.weak ht) (fun j e => hO j (by have := hops x (by simp); rw [e] at this; simpa using this)) (fun v s1 s1' h1 f1 f1' hh => ?_) hw
            have sub : ∀ y ∈ [Operand.tmp t] ++ [x], y ∈ (Op.call ⟨.builtin .append, args, ts⟩).operands.toList := fun y hy => hops y (by simpa using hy)
            have g1 := (Fr.weak.trans f1).mono sub
            have g1' := (Fr.weak.trans f1').mono sub
            unfold wAppendS at hh ⊢
            split at hh
            · split at hh
              · exact ⟨hh.1, hh.2.1, hh.2.2.1, hh.2.2.2.1, hk _ _ _ h1 g1 g1' hh.2.2.2.2⟩
              · exact hh.elim
            · exact hh.elim
          · rename_i htd
            refine ⟨hw.1, ?_⟩
            have hw := hw.2
            rw [← h.get ht]
            refine wT_rel (h.weak ht) (fun j e => hO j (by have := hops x (by simp); rw [e] at this; simpa using this)) (fun v s1 s1' h1 f1 f1' hh => ?_) hw
            have sub : ∀ y ∈ [Operand.tmp t] ++ [x], y ∈ (Op.call ⟨.builtin .append, args, ts⟩).operands.toList := fun y hy => hops y (by simpa using hy)
            have g1 := (Fr.weak.trans f1).mono sub
            have g1' := (Fr.weak.trans f1').mono sub
            unfold wAppend at hh ⊢
            split at hh
            · split at hh
              · exact ⟨hh.1, hh.2.1, hh.2.2.1, hh.2.2.2.1, hh.2.2.2.2.1, hk _ _ _ h1 g1 g1' hh.2.2.2.2.2⟩
              · exact hh.elim
            · split at hh
              · exact ⟨hh.1, hh.2.1, hh.2.2.1, hh.2.2.2.1, hh.2.2.2.2.1, hk _ _ _ h1 g1 g1' hh.2.2.2.2.2⟩
              · exact hh.elim
            · exact hh.elim
        · exact hw.elim
    all_goals first | (exact hw.elim; done) | (exact absurd rfl hf; done) | (simp [floats] at hf; done)
end
end Go.Proofs.YtkpdlbidadcdjaaDoor.Abs
