/- What an abstract value says of a value stays true where the world changes elsewhere; a share of it; a pointer seen from another frame. No condition. -/
import Derived.Test.YtkpdlbidadcdjaaDoorAbsA
set_option linter.unusedVariables false
namespace Go.Proofs.YtkpdlbidadcdjaaDoor.Abs
open Go
section
variable {P : Program} {w w' : World} {Pr Pr' : Addr → Prop}

theorem shareL_eq (cs : List AC) : shareL cs = cs.map share := by
  induction cs with
  | nil => simp [shareL]
  | cons c cs ih => simp [shareL, ih]

theorem Reps.length {bl cs vs L} (h : Reps P w Pr bl cs vs L) : cs.length = vs.length := by
  induction cs generalizing vs L with
  | nil => cases h; rfl
  | cons c cs ih => cases h with | cons h1 h2 => simp [ih h2]

theorem Reps.append {bl a vs L b us M} (h : Reps P w Pr bl a vs L) (g : Reps P w Pr bl b us M) : Reps P w Pr bl (a ++ b) (vs ++ us) (L ++ M) := by
  induction a generalizing vs L with
  | nil => cases h; simpa using g
  | cons c cs ih => cases h with | cons h1 h2 => simpa [List.append_assoc] using Reps.cons h1 (ih h2)

theorem Reps.split {bl a b vs L} (h : Reps P w Pr bl (a ++ b) vs L) : ∃ v1 v2 L1 L2, vs = v1 ++ v2 ∧ L = L1 ++ L2 ∧ v1.length = a.length ∧ Reps P w Pr bl a v1 L1 ∧ Reps P w Pr bl b v2 L2 := by
  induction a generalizing vs L with
  | nil => exact ⟨[], vs, [], L, rfl, rfl, rfl, .nil, h⟩
  | cons c cs ih =>
    cases h with
    | cons h1 h2 =>
      rename_i v vs' L1 M
      obtain ⟨v1, v2, M1, M2, rfl, rfl, hl, g1, g2⟩ := ih h2
      exact ⟨v :: v1, v2, L1 ++ M1, M2, rfl, by simp, by simp [hl], .cons h1 g1, g2⟩

theorem Reps.get {bl cs vs L} (h : Reps P w Pr bl cs vs L) {i : Nat} {c : AC} (hc : cs[i]? = some c) :
    ∃ v Li, vs[i]? = some v ∧ Rep P w Pr bl c v Li ∧ ∀ x, Li.count x ≤ L.count x := by
  induction cs generalizing vs L i with
  | nil => simp at hc
  | cons a cs ih =>
    cases h with
    | cons h1 h2 =>
      cases i with
      | zero =>
        simp only [List.getElem?_cons_zero, Option.some.injEq] at hc; subst hc
        exact ⟨_, _, rfl, h1, fun x => by simp⟩
      | succ i =>
        simp only [List.getElem?_cons_succ] at hc
        obtain ⟨v, Li, hv, hr, hle⟩ := ih h2 hc
        exact ⟨v, Li, by simpa using hv, hr, fun x => by have := hle x; simp only [List.count_append]; omega⟩

/-- Where the world changes elsewhere. -/
structure Kept (w : World) (Pr : Addr → Prop) (w' : World) (Pr' : Addr → Prop) (g : Nat) : Prop where
  heap : w'.heap[g]? = w.heap[g]?
  pr : ∀ a, Pr' a → a.block = g → Pr a

mutual
theorem Rep.kept (hp : ∀ a, Pr a → Pr' a ∧ w'.cell? a = w.cell? a) : ∀ {bl c v L}, Rep P w Pr bl c v L → (∀ g ∈ L, Kept w Pr w' Pr' g) → Rep P w' Pr' bl c v L
  | _, _, _, _, .bool, _ => .bool
  | _, _, _, _, .int, _ => .int
  | _, _, _, _, .str h h', _ => .str h h'
  | _, _, _, _, .slNo h1 h2 h3 h4 h5, _ => .slNo (Reps.kept hp h1 (fun g hg => by cases hg)) h2 (fun j u hu => ⟨(hp _ (h3 j u hu).1).1, ((hp _ (h3 j u hu).1).2).trans (h3 j u hu).2⟩) h4 h5
  | _, _, _, _, .slNil, _ => .slNil
  | _, _, _, _, .slOf h1 h2 h3 h4 h5 h6 h7 h8 h9 h10, hk =>
    .slOf (Reps.kept hp h1 (fun g hg => hk g (List.mem_cons_of_mem _ hg))) h2 (((hk _ List.mem_cons_self).heap).trans h3) h4 h5 h6 h7 h8
      (fun a ha hb => h9 a ((hk _ List.mem_cons_self).pr a ha hb) hb) (fun j hj => (hp _ (h10 j hj)).1)
  | _, _, _, _, .slEx h1 h2 h3 h4 h5 h6 h7 h8 h9, hk =>
    .slEx (Reps.kept hp h1 (fun g hg => hk g (List.mem_cons_of_mem _ hg))) h2 (((hk _ List.mem_cons_self).heap).trans h3) h4 h5 h6 h7 h8
      (fun a ha hb => h9 a ((hk _ List.mem_cons_self).pr a ha hb) hb)
  | _, _, _, _, .nam h, hk => .nam (Rep.kept hp h hk)
  | _, _, _, _, .ept, _ => .ept
  | _, _, _, _, .als h1 h2, _ => .als h1 h2
  | _, _, _, _, .alsA, _ => .alsA
  | _, _, _, _, .agg h1 h2, hk => .agg (Reps.kept hp h1 hk) h2
  | _, _, _, _, .tup h1, hk => .tup (Reps.kept hp h1 hk)
  | _, _, _, _, .ptr h, _ => .ptr h
  | _, _, _, _, .ref h1 h2 h3, _ => .ref (Reps.kept hp h1 (fun g hg => by cases hg)) h2 (fun j u hu => ⟨(hp _ (h3 j u hu).1).1, ((hp _ (h3 j u hu).1).2).trans (h3 j u hu).2⟩)
  | _, _, _, _, .fn h0 h, _ => .fn h0 (Reps.kept hp h (fun g hg => by cases hg))
  | _, _, _, _, .optT h, hk => .optT (Rep.kept hp h hk)
  | _, _, _, _, .optF, _ => .optF
  | _, _, _, _, .undef, _ => .undef
theorem Reps.kept (hp : ∀ a, Pr a → Pr' a ∧ w'.cell? a = w.cell? a) : ∀ {bl cs vs L}, Reps P w Pr bl cs vs L → (∀ g ∈ L, Kept w Pr w' Pr' g) → Reps P w' Pr' bl cs vs L
  | _, _, _, _, .nil, _ => .nil
  | _, _, _, _, .cons h1 h2, hk => .cons (Rep.kept hp h1 (fun g hg => hk g (List.mem_append_left _ hg))) (Reps.kept hp h2 (fun g hg => hk g (List.mem_append_right _ hg)))
end

mutual
theorem Rep.share : ∀ {bl c v L}, Rep P w Pr bl c v L → Rep P w Pr bl (share c) v []
  | _, _, _, _, .bool => by simpa [Abs.share] using Rep.bool
  | _, _, _, _, .int => by simpa [Abs.share] using Rep.int
  | _, _, _, _, .str h h' => by simpa [Abs.share] using Rep.str h h'
  | _, _, _, _, .slNo h1 h2 h3 h4 h5 => by
    simp only [Abs.share]
    exact .slNo h1 h2 h3 h4 h5
  | _, _, _, _, .slNil (o := o) => by cases o <;> simp only [Abs.share, shareL] <;> first | exact .slNil | exact .undef
  | _, _, _, _, .slEx .. => by simp only [Abs.share]; exact .undef
  | _, _, _, _, .nam h => by simp only [Abs.share]; exact Rep.share h
  | _, _, _, _, .ept => by simp only [Abs.share]; exact .ept
  | _, _, _, _, .als h1 h2 => by simp only [Abs.share]; exact .als h1 h2
  | _, _, _, _, .alsA => by simp only [Abs.share]; exact .alsA
  | _, _, _, _, .slOf (g := g) (cur := cur) h1 h2 h3 h4 h5 h6 h7 h8 h9 h10 => by
    simp only [Abs.share]
    refine .slNo (Reps.share h1) h2 (fun j u hu => ?_) h4 h5
    have hadd : (⟨g, 0, none⟩ : Addr).add j = ⟨g, j, none⟩ := by rw [Addr.add_lit]; simp
    rw [hadd, cell_of_row w _ j cur _ _ h3]
    rw [← h8, List.getElem?_take] at hu
    split at hu
    · rename_i hlt
      exact ⟨h10 j hlt, by simpa using hu⟩
    · cases hu
  | _, _, _, _, .agg h1 h2 => by simp only [Abs.share]; exact .agg (Reps.share h1) h2
  | _, _, _, _, .tup h1 => by simp only [Abs.share]; exact .tup (Reps.share h1)
  | _, _, _, _, .ptr h => by simp only [Abs.share]; exact .ptr h
  | _, _, _, _, .ref h1 h2 h3 => by simp only [Abs.share]; exact .ref h1 h2 h3
  | _, _, _, _, .fn h0 h => by simp only [Abs.share]; exact .fn h0 h
  | _, _, _, _, .optT h => by simp only [Abs.share]; exact .optT (Rep.share h)
  | _, _, _, _, .optF => by simp only [Abs.share]; exact .optF
  | _, _, _, _, .undef => by simp only [Abs.share]; exact .undef
theorem Reps.share : ∀ {bl cs vs L}, Reps P w Pr bl cs vs L → Reps P w Pr bl (shareL cs) vs []
  | _, _, _, _, .nil => by simp only [shareL]; exact .nil
  | _, _, _, _, .cons h1 h2 => by simp only [shareL]; simpa using Reps.cons (Rep.share h1) (Reps.share h2)
end

mutual
theorem Rep.own_lt : ∀ {bl c v L}, Rep P w Pr bl c v L → ∀ g ∈ L, g < w.heap.size
  | _, _, _, _, .bool, g, hg => by cases hg
  | _, _, _, _, .int, g, hg => by cases hg
  | _, _, _, _, .str .., g, hg => by cases hg
  | _, _, _, _, .slNo .., g, hg => by cases hg
  | _, _, _, _, .slNil, g, hg => by cases hg
  | _, _, _, _, .slOf h1 h2 h3 _ _ _ _ _ _ _, g, hg => by
    rcases List.mem_cons.1 hg with rfl | hg
    · exact (Array.getElem?_eq_some_iff.1 h3).1
    · exact Reps.own_lt h1 g hg
  | _, _, _, _, .slEx h1 h2 h3 _ _ _ _ _ _, g, hg => by
    rcases List.mem_cons.1 hg with rfl | hg
    · exact (Array.getElem?_eq_some_iff.1 h3).1
    · exact Reps.own_lt h1 g hg
  | _, _, _, _, .nam h, g, hg => Rep.own_lt h g hg
  | _, _, _, _, .ept, g, hg => by cases hg
  | _, _, _, _, .als .., g, hg => by cases hg
  | _, _, _, _, .alsA, g, hg => by cases hg
  | _, _, _, _, .agg h1 _, g, hg => Reps.own_lt h1 g hg
  | _, _, _, _, .tup h1, g, hg => Reps.own_lt h1 g hg
  | _, _, _, _, .ptr _, g, hg => by cases hg
  | _, _, _, _, .ref .., g, hg => by cases hg
  | _, _, _, _, .fn .., g, hg => by cases hg
  | _, _, _, _, .optT h, g, hg => Rep.own_lt h g hg
  | _, _, _, _, .optF, g, hg => by cases hg
  | _, _, _, _, .undef, g, hg => by cases hg
theorem Reps.own_lt : ∀ {bl cs vs L}, Reps P w Pr bl cs vs L → ∀ g ∈ L, g < w.heap.size
  | _, _, _, _, .nil, g, hg => by cases hg
  | _, _, _, _, .cons h1 h2, g, hg => by
    rcases List.mem_append.1 hg with hg | hg
    · exact Rep.own_lt h1 g hg
    · exact Reps.own_lt h2 g hg
end

/-- A map of the pointers under which everything else stays. -/
structure Moves (bl bl' : List (List Nat)) (f : AC → AC) : Prop where
  ptr : ∀ u i o g, (bl[u]?).bind (·[i]?) = some g → f (.ptr u i o) = .undef ∨ ∃ u' i', f (.ptr u i o) = .ptr u' i' o ∧ (bl'[u']?).bind (·[i']?) = some g
  rest : ∀ c, (∀ u i o, c ≠ .ptr u i o) → f c = c

theorem Reps.nil_split {bl c cs v vs} (h : Reps P w Pr bl (c :: cs) (v :: vs) []) : Rep P w Pr bl c v [] ∧ Reps P w Pr bl cs vs [] := by
  generalize hL : ([] : List Nat) = L at h
  cases h with
  | cons h1 h2 =>
    obtain ⟨e1, e2⟩ := List.append_eq_nil_iff.1 hL.symm
    subst e1; subst e2
    exact ⟨h1, h2⟩

theorem Moves.cap {bl bl' : List (List Nat)} {f : AC → AC} (hm : Moves bl bl' f) {c v} (hc : isPtr c = true) (h : Rep P w Pr bl c v []) :
    Rep P w Pr bl' (f c) v [] ∧ isPtr (f c) = true := by
  cases c <;> simp only [isPtr, Bool.false_eq_true] at hc
  · cases h with
    | ptr hg =>
      rcases hm.ptr _ _ _ _ hg with e | ⟨u', i', e, hg'⟩
      · rw [e]; exact ⟨.undef, rfl⟩
      · rw [e]; exact ⟨.ptr hg', rfl⟩
  · rw [hm.rest .undef (by simp)]; exact ⟨.undef, rfl⟩

theorem Moves.caps {bl bl' : List (List Nat)} {f : AC → AC} (hm : Moves bl bl' f) {caps : List AC} (hp : ∀ c ∈ caps, isPtr c = true) :
    ∀ {vs}, Reps P w Pr bl caps vs [] → Reps P w Pr bl' (caps.map f) vs [] ∧ ∀ c ∈ caps.map f, isPtr c = true := by
  induction caps with
  | nil => intro vs h; cases h; exact ⟨.nil, by simp⟩
  | cons c cs ih =>
    intro vs h
    cases vs with
    | nil => cases h
    | cons v vs =>
      obtain ⟨h1, h2⟩ := Reps.nil_split h
      obtain ⟨g1, g2⟩ := ih (fun c hc => hp c (List.mem_cons_of_mem _ hc)) h2
      obtain ⟨k1, k2⟩ := hm.cap (hp c List.mem_cons_self) h1
      refine ⟨Reps.cons (L := []) (M := []) k1 g1, ?_⟩
      intro d hd
      rw [List.map_cons] at hd
      rcases List.mem_cons.1 hd with rfl | hd
      · exact k2
      · exact g2 d hd

/-- 'f' moves the pointers from the boxes bl to the boxes bl'. -/
theorem Rep.mapC {bl bl' : List (List Nat)} {f : AC → AC} (hm : Moves bl bl' f) {c v L} (h : Rep P w Pr bl c v L) :
    ∃ L', Rep P w Pr bl' (Abs.mapC f c) v L' ∧ (∀ x, L'.count x ≤ L.count x) := by
  cases h with
  | bool => exact ⟨[], .bool, fun x => by simp⟩
  | int => exact ⟨[], .int, fun x => by simp⟩
  | str h h' => exact ⟨[], .str h h', fun x => by simp⟩
  | slNo h1 h2 h3 h4 h5 => exact ⟨[], .slNo h1 h2 h3 h4 h5, fun x => by simp⟩
  | slNil => exact ⟨[], .slNil, fun x => by simp⟩
  | slOf h1 h2 h3 h4 h5 h6 h7 h8 h9 h10 => exact ⟨_, .slOf h1 h2 h3 h4 h5 h6 h7 h8 h9 h10, fun x => Nat.le_refl _⟩
  | slEx h1 h2 h3 h4 h5 h6 h7 h8 h9 => exact ⟨_, .slEx h1 h2 h3 h4 h5 h6 h7 h8 h9, fun x => Nat.le_refl _⟩
  | nam h =>
    rename_i v
    cases v with
    | sl o n cs =>
      cases h with
      | slNo h1 h2 h3 h4 h5 => exact ⟨[], .nam (.slNo h1 h2 h3 h4 h5), fun x => by simp⟩
      | slNil => exact ⟨[], .nam .slNil, fun x => by simp⟩
      | slOf h1 h2 h3 h4 h5 h6 h7 h8 h9 h10 => exact ⟨_, .nam (.slOf h1 h2 h3 h4 h5 h6 h7 h8 h9 h10), fun x => Nat.le_refl _⟩
      | slEx h1 h2 h3 h4 h5 h6 h7 h8 h9 => exact ⟨_, .nam (.slEx h1 h2 h3 h4 h5 h6 h7 h8 h9), fun x => Nat.le_refl _⟩
    | _ => exact ⟨[], .undef, fun x => by simp⟩
  | ept => exact ⟨[], .ept, fun x => by simp⟩
  | als h1 h2 => exact ⟨[], .als h1 h2, fun x => by simp⟩
  | alsA => exact ⟨[], .alsA, fun x => by simp⟩
  | agg h1 h2 => exact ⟨[], .undef, fun x => by simp⟩
  | tup h1 => exact ⟨[], .undef, fun x => by simp⟩
  | ptr hg =>
    rename_i u i o g
    rcases hm.ptr u i o g hg with e | ⟨u', i', e, hg'⟩
    · exact ⟨[], by simp only [Abs.mapC, e]; exact .undef, fun x => by simp⟩
    · exact ⟨[], by simp only [Abs.mapC, e]; exact .ptr hg', fun x => by simp⟩
  | ref h1 h2 h3 => exact ⟨[], .ref h1 h2 h3, fun x => by simp⟩
  | fn h0 h1 =>
    obtain ⟨g1, g2⟩ := hm.caps h0 h1
    exact ⟨[], .fn g2 g1, fun x => by simp⟩
  | optT h => exact ⟨[], .undef, fun x => by simp⟩
  | optF => exact ⟨[], .undef, fun x => by simp⟩
  | undef => exact ⟨[], .undef, fun x => by simp⟩

theorem Reps.mapC {bl bl' : List (List Nat)} {f : AC → AC} (hm : Moves bl bl' f) {cs vs L} (h : Reps P w Pr bl cs vs L) :
    ∃ L', Reps P w Pr bl' (cs.map (Abs.mapC f)) vs L' ∧ (∀ x, L'.count x ≤ L.count x) := by
  induction cs generalizing vs L with
  | nil => cases h; exact ⟨[], .nil, fun x => by simp⟩
  | cons c cs ih =>
    cases h with
    | cons h1 h2 =>
      obtain ⟨L1, g1, c1⟩ := Rep.mapC hm h1
      obtain ⟨L2, g2, c2⟩ := ih h2
      exact ⟨L1 ++ L2, .cons g1 g2, fun x => by have := c1 x; have := c2 x; simp only [List.count_append]; omega⟩

theorem Rep.mapV {bl bl' : List (List Nat)} {f : AC → AC} (hm : Moves bl bl' f) {c v L} (h : Rep P w Pr bl c v L) :
    ∃ L', Rep P w Pr bl' (Abs.mapV f c) v L' ∧ (∀ x, L'.count x ≤ L.count x) := by
  cases c with
  | agg cs =>
    cases h with
    | agg h1 h2 =>
      obtain ⟨L', g, c⟩ := Reps.mapC hm h1
      exact ⟨L', .agg g h2, c⟩
  | nam y v =>
    cases v with
    | agg cs =>
      cases h with
      | nam h =>
        cases h with
        | agg h1 h2 =>
          obtain ⟨L', g, c⟩ := Reps.mapC hm h1
          exact ⟨L', .nam (.agg g h2), c⟩
    | _ => exact Rep.mapC hm h
  | _ => exact Rep.mapC hm h

/-- The pointers into n frames further in. -/
theorem moves_lift (n : Nat) (bs bl : List (List Nat)) (hn : bs.length = n) : Moves bl (bs ++ bl) (liftP n) where
  ptr u i o g h := .inr ⟨u + n, i, rfl, by
    rw [List.getElem?_append_right (by omega)]
    have : u + n - bs.length = u := by omega
    rw [this]; exact h⟩
  rest c hc := by cases c <;> first | rfl | exact absurd rfl (hc _ _ _)

theorem moves_kill (n : Nat) (b : List Nat) (bl : List (List Nat)) : Moves (b :: bl) (b.take n :: bl) (killP n) where
  ptr u i o g h := by
    simp only [killP]
    by_cases hk : u = 0 ∧ n ≤ i
    · rw [if_pos hk]; exact .inl rfl
    · rw [if_neg hk]
      refine .inr ⟨u, i, rfl, ?_⟩
      cases u with
      | zero =>
        simp only [List.getElem?_cons_zero, Option.bind_some] at h ⊢
        rw [List.getElem?_take, if_pos (by omega)]; exact h
      | succ u => simpa using h
  rest c hc := by cases c <;> first | rfl | exact absurd rfl (hc _ _ _)

theorem moves_ext (b gs : List Nat) (bl : List (List Nat)) : Moves (b :: bl) ((b ++ gs) :: bl) id where
  ptr u i o g h := .inr ⟨u, i, rfl, by
    cases u with
    | zero =>
      simp only [List.getElem?_cons_zero, Option.bind_some] at h ⊢
      rw [List.getElem?_append_left (List.getElem?_eq_some_iff.1 h).1]; exact h
    | succ u => simpa using h⟩
  rest c hc := rfl

mutual
theorem Rep.ext {b gs : List Nat} {bl : List (List Nat)} : ∀ {c v L}, Rep P w Pr (b :: bl) c v L → Rep P w Pr ((b ++ gs) :: bl) c v L
  | _, _, _, .bool => .bool
  | _, _, _, .int => .int
  | _, _, _, .str h h' => .str h h'
  | _, _, _, .slNo h1 h2 h3 h4 h5 => .slNo h1 h2 h3 h4 h5
  | _, _, _, .slNil => .slNil
  | _, _, _, .slOf h1 h2 h3 h4 h5 h6 h7 h8 h9 h10 => .slOf h1 h2 h3 h4 h5 h6 h7 h8 h9 h10
  | _, _, _, .slEx h1 h2 h3 h4 h5 h6 h7 h8 h9 => .slEx h1 h2 h3 h4 h5 h6 h7 h8 h9
  | _, _, _, .nam h => .nam (Rep.ext h)
  | _, _, _, .ept => .ept
  | _, _, _, .als h1 h2 => .als h1 h2
  | _, _, _, .alsA => .alsA
  | _, _, _, .agg h1 h2 => .agg (Reps.ext h1) h2
  | _, _, _, .tup h1 => .tup (Reps.ext h1)
  | _, _, _, .ptr (u := u) (i := i) (off := o) h => by
    rcases (moves_ext b gs bl).ptr u i o _ h with e | ⟨u', i', e, hg⟩
    · simp at e
    · simp only [id, AC.ptr.injEq] at e
      obtain ⟨rfl, rfl, -⟩ := e
      exact .ptr hg
  | _, _, _, .ref h1 h2 h3 => .ref h1 h2 h3
  | _, _, _, .fn h0 h => .fn h0 (Reps.ext h)
  | _, _, _, .optT h => .optT (Rep.ext h)
  | _, _, _, .optF => .optF
  | _, _, _, .undef => .undef
theorem Reps.ext {b gs : List Nat} {bl : List (List Nat)} : ∀ {cs vs L}, Reps P w Pr (b :: bl) cs vs L → Reps P w Pr ((b ++ gs) :: bl) cs vs L
  | _, _, _, .nil => .nil
  | _, _, _, .cons h1 h2 => .cons (Rep.ext h1) (Reps.ext h2)
end

theorem lowP_rep {n : Nat} {bs bl : List (List Nat)} (hn : bs.length = n) {c c' v} (hc : isPtr c = true) (e : lowP n c = some c') (h : Rep P w Pr (bs ++ bl) c v []) :
    Rep P w Pr bl c' v [] ∧ isPtr c' = true := by
  cases c <;> simp only [isPtr, Bool.false_eq_true] at hc
  · simp only [lowP] at e
    split at e
    · rename_i u i o hle
      cases e
      cases h with
      | ptr hg =>
        refine ⟨.ptr ?_, rfl⟩
        rw [List.getElem?_append_right (by omega)] at hg
        rw [← hn]; exact hg
    · cases e
  · simp only [lowP, Option.some.injEq] at e; subst e
    exact ⟨.undef, rfl⟩

theorem lowPs_rep {n : Nat} {bs bl : List (List Nat)} (hn : bs.length = n) {cs cs' vs} (hc : ∀ c ∈ cs, isPtr c = true) (e : cs.mapM (lowP n) = some cs') (h : Reps P w Pr (bs ++ bl) cs vs []) :
    Reps P w Pr bl cs' vs [] ∧ ∀ c ∈ cs', isPtr c = true := by
  induction cs generalizing cs' vs with
  | nil => cases h; simp at e; subst e; exact ⟨.nil, by simp⟩
  | cons c cs ih =>
    cases vs with
    | nil => cases h
    | cons v vs =>
      obtain ⟨h1, h2⟩ := Reps.nil_split h
      simp only [List.mapM_cons, Option.pure_def, Option.bind_eq_bind, Option.bind_eq_some_iff] at e
      obtain ⟨c1, e1, cs1, e2, e3⟩ := e
      simp only [Option.some.injEq] at e3; subst e3
      obtain ⟨g1, g2⟩ := lowP_rep hn (hc c List.mem_cons_self) e1 h1
      obtain ⟨k1, k2⟩ := ih (fun c hc' => hc c (List.mem_cons_of_mem _ hc')) e2 h2
      exact ⟨Reps.cons (L := []) (M := []) g1 k1, fun d hd => by rcases List.mem_cons.1 hd with rfl | hd; exact g2; exact k2 d hd⟩

theorem lowC_rep {n : Nat} {bs bl : List (List Nat)} (hn : bs.length = n) {c c' v L} (e : lowC n c = some c') (h : Rep P w Pr (bs ++ bl) c v L) : Rep P w Pr bl c' v L := by
  cases h with
  | ptr hg =>
    simp only [lowC] at e
    split at e
    · cases e
      refine .ptr ?_
      rw [List.getElem?_append_right (by omega)] at hg
      rw [← hn]; exact hg
    · cases e
  | fn h0 h1 =>
    simp only [lowC, Option.map_eq_some_iff] at e
    obtain ⟨cs', e1, rfl⟩ := e
    obtain ⟨g1, g2⟩ := lowPs_rep hn h0 e1 h1
    exact .fn g2 g1
  | agg => simp [lowC] at e
  | tup => simp [lowC] at e
  | optT => simp [lowC] at e
  | optF => simp [lowC] at e
  | bool => simp only [lowC, Option.some.injEq] at e; subst e; exact .bool
  | int => simp only [lowC, Option.some.injEq] at e; subst e; exact .int
  | str h h' => simp only [lowC, Option.some.injEq] at e; subst e; exact .str h h'
  | slNo h1 h2 h3 h4 h5 => simp only [lowC, Option.some.injEq] at e; subst e; exact .slNo h1 h2 h3 h4 h5
  | slNil => simp only [lowC, Option.some.injEq] at e; subst e; exact .slNil
  | slOf h1 h2 h3 h4 h5 h6 h7 h8 h9 h10 => simp only [lowC, Option.some.injEq] at e; subst e; exact .slOf h1 h2 h3 h4 h5 h6 h7 h8 h9 h10
  | ref h1 h2 h3 => simp only [lowC, Option.some.injEq] at e; subst e; exact .ref h1 h2 h3
  | slEx h1 h2 h3 h4 h5 h6 h7 h8 h9 => simp only [lowC, Option.some.injEq] at e; subst e; exact .slEx h1 h2 h3 h4 h5 h6 h7 h8 h9
  | nam h =>
    rename_i v
    cases v with
    | sl o n cs =>
      simp only [lowC, Option.some.injEq] at e; subst e
      cases h with
      | slNo h1 h2 h3 h4 h5 => exact .slNo h1 h2 h3 h4 h5
      | slNil => exact .slNil
      | slOf h1 h2 h3 h4 h5 h6 h7 h8 h9 h10 => exact .slOf h1 h2 h3 h4 h5 h6 h7 h8 h9 h10
      | slEx h1 h2 h3 h4 h5 h6 h7 h8 h9 => exact .slEx h1 h2 h3 h4 h5 h6 h7 h8 h9
    | _ => simp [lowC] at e
  | ept => simp only [lowC, Option.some.injEq] at e; subst e; exact .ept
  | als h1 h2 => simp only [lowC, Option.some.injEq] at e; subst e; exact .als h1 h2
  | alsA => simp only [lowC, Option.some.injEq] at e; subst e; exact .alsA
  | undef => simp only [lowC, Option.some.injEq] at e; subst e; exact .undef

theorem lowCs_rep {n : Nat} {bs bl : List (List Nat)} (hn : bs.length = n) {cs cs' vs L} (e : cs.mapM (lowC n) = some cs') (h : Reps P w Pr (bs ++ bl) cs vs L) : Reps P w Pr bl cs' vs L := by
  induction cs generalizing cs' vs L with
  | nil => cases h; simp at e; subst e; exact .nil
  | cons c cs ih =>
    cases h with
    | cons h1 h2 =>
      simp only [List.mapM_cons, Option.pure_def, Option.bind_eq_bind, Option.bind_eq_some_iff] at e
      obtain ⟨c1, e1, cs1, e2, e3⟩ := e
      simp only [Option.some.injEq] at e3; subst e3
      exact .cons (lowC_rep hn e1 h1) (ih e2 h2)

/-- What points into no boxes holds over any. -/
theorem moves_nil (bl : List (List Nat)) : Moves [] bl id where
  ptr u i o g h := by simp at h
  rest c hc := rfl

mutual
theorem Rep.nilbl : ∀ {bl c v L}, Rep P w Pr [] c v L → Rep P w Pr bl c v L
  | _, _, _, _, .bool => .bool
  | _, _, _, _, .int => .int
  | _, _, _, _, .str h h' => .str h h'
  | _, _, _, _, .slNo h1 h2 h3 h4 h5 => .slNo h1 h2 h3 h4 h5
  | _, _, _, _, .slNil => .slNil
  | _, _, _, _, .slOf h1 h2 h3 h4 h5 h6 h7 h8 h9 h10 => .slOf h1 h2 h3 h4 h5 h6 h7 h8 h9 h10
  | _, _, _, _, .slEx h1 h2 h3 h4 h5 h6 h7 h8 h9 => .slEx h1 h2 h3 h4 h5 h6 h7 h8 h9
  | _, _, _, _, .nam h => .nam (Rep.nilbl h)
  | _, _, _, _, .ept => .ept
  | _, _, _, _, .als h1 h2 => .als h1 h2
  | _, _, _, _, .alsA => .alsA
  | _, _, _, _, .agg h1 h2 => .agg (Reps.nilbl h1) h2
  | _, _, _, _, .tup h1 => .tup (Reps.nilbl h1)
  | _, _, _, _, .ptr h => by simp at h
  | _, _, _, _, .ref h1 h2 h3 => .ref h1 h2 h3
  | _, _, _, _, .fn h0 h => .fn h0 (Reps.nilbl h)
  | _, _, _, _, .optT h => .optT (Rep.nilbl h)
  | _, _, _, _, .optF => .optF
  | _, _, _, _, .undef => .undef
theorem Reps.nilbl : ∀ {bl cs vs L}, Reps P w Pr [] cs vs L → Reps P w Pr bl cs vs L
  | _, _, _, _, .nil => .nil
  | _, _, _, _, .cons h1 h2 => .cons (Rep.nilbl h1) (Reps.nilbl h2)
end

mutual
/-- Who looks while nobody writes. -/
theorem Rep.lend (hp : ∀ a, Pr a → Pr' a) : ∀ {bl c v L}, Rep P w Pr bl c v L → (∀ g ∈ L, ∀ a : Addr, a.block = g → Pr' a) → Rep P w Pr' bl (lendS c) v []
  | _, _, _, _, .bool, _ => by simpa [lendS] using Rep.bool
  | _, _, _, _, .int, _ => by simpa [lendS] using Rep.int
  | _, _, _, _, .str h h', _ => by simpa [lendS] using Rep.str h h'
  | _, _, _, _, .slNo h1 h2 h3 h4 h5, _ => by
    simp only [lendS]
    exact .slNo (Reps.kept (fun a ha => ⟨hp a ha, rfl⟩) h1 (fun g hg => by cases hg)) h2 (fun j u hu => ⟨hp _ (h3 j u hu).1, (h3 j u hu).2⟩) h4 h5
  | _, _, _, _, .slNil (o := o), _ => by cases o <;> simp only [lendS, lendL] <;> exact .slNil
  | _, _, _, _, .slOf (g := g) (cur := cur) h1 h2 h3 h4 h5 h6 h7 h8 h9 h10, hk => by
    simp only [lendS]
    refine .slNo (Reps.lend hp h1 fun g hg => hk g (List.mem_cons_of_mem _ hg)) h2 (fun j u hu => ?_) h4 h5
    have hadd : (⟨g, 0, none⟩ : Addr).add j = ⟨g, j, none⟩ := by rw [Addr.add_lit]; simp
    rw [hadd, cell_of_row w _ j cur _ _ h3]
    rw [← h8, List.getElem?_take] at hu
    split at hu
    · exact ⟨hk g List.mem_cons_self _ rfl, by simpa using hu⟩
    · cases hu
  | _, _, _, _, .slEx (g := g) (cur := cur) h1 h2 h3 h4 h5 h6 h7 h8 h9, hk => by
    simp only [lendS]
    refine .slNo (Reps.lend hp h1 fun g hg => hk g (List.mem_cons_of_mem _ hg)) h2 (fun j u hu => ?_) h4 h5
    have hadd : (⟨g, 0, none⟩ : Addr).add j = ⟨g, j, none⟩ := by rw [Addr.add_lit]; simp
    rw [hadd, cell_of_row w _ j cur _ _ h3]
    rw [← h8, List.getElem?_take] at hu
    split at hu
    · exact ⟨hk g List.mem_cons_self _ rfl, by simpa using hu⟩
    · cases hu
  | _, _, _, _, .nam h, hk => by simp only [lendS]; exact Rep.lend hp h hk
  | _, _, _, _, .ept, _ => by simp only [lendS]; exact .ept
  | _, _, _, _, .als h1 h2, _ => by simp only [lendS]; exact .als h1 h2
  | _, _, _, _, .alsA, _ => by simp only [lendS]; exact .alsA
  | _, _, _, _, .agg h1 h2, hk => by simp only [lendS]; exact .agg (Reps.lend hp h1 hk) h2
  | _, _, _, _, .tup h1, hk => by simp only [lendS]; exact .tup (Reps.lend hp h1 hk)
  | _, _, _, _, .ptr h, _ => by simp only [lendS]; exact .ptr h
  | _, _, _, _, .ref h1 h2 h3, _ => by
    simp only [lendS]
    exact .ref (Reps.kept (fun a ha => ⟨hp a ha, rfl⟩) h1 (fun g hg => by cases hg)) h2 (fun j u hu => ⟨hp _ (h3 j u hu).1, (h3 j u hu).2⟩)
  | _, _, _, _, .fn h0 h, _ => by simp only [lendS]; exact .fn h0 (Reps.kept (fun a ha => ⟨hp a ha, rfl⟩) h (fun g hg => by cases hg))
  | _, _, _, _, .optT h, hk => by simp only [lendS]; exact .optT (Rep.lend hp h hk)
  | _, _, _, _, .optF, _ => by simp only [lendS]; exact .optF
  | _, _, _, _, .undef, _ => by simp only [lendS]; exact .undef
theorem Reps.lend (hp : ∀ a, Pr a → Pr' a) : ∀ {bl cs vs L}, Reps P w Pr bl cs vs L → (∀ g ∈ L, ∀ a : Addr, a.block = g → Pr' a) → Reps P w Pr' bl (lendL cs) vs []
  | _, _, _, _, .nil, _ => by simp only [lendL]; exact .nil
  | _, _, _, _, .cons h1 h2, hk => by
    simp only [lendL]
    simpa using Reps.cons (Rep.lend hp h1 fun g hg => hk g (List.mem_append_left _ hg)) (Reps.lend hp h2 fun g hg => hk g (List.mem_append_right _ hg))
end

mutual
/-- What is closed needs none of the promises. -/
theorem Rep.toEx : ∀ {bl c v L}, Rep P w Pr bl c v L → closed c = true → (∀ g ∈ L, ∀ a : Addr, Pr' a → a.block ≠ g) → Rep P w Pr' bl (Abs.toEx c) v L
  | _, _, _, _, .bool, _, _ => by simpa [Abs.toEx] using Rep.bool
  | _, _, _, _, .int, _, _ => by simpa [Abs.toEx] using Rep.int
  | _, _, _, _, .str h h', _, _ => by simpa [Abs.toEx] using Rep.str h h'
  | _, _, _, _, .slNo .., hc, _ => by simp [closed] at hc
  | _, _, _, _, .slNil (o := o), _, _ => by cases o <;> simp only [Abs.toEx, toExL] <;> exact .slNil
  | _, _, _, _, .slOf h1 h2 h3 h4 h5 h6 h7 h8 h9 h10, hc, hk => by
    simp only [closed] at hc
    simp only [Abs.toEx]
    exact .slEx (Reps.toEx h1 hc fun g hg => hk g (List.mem_cons_of_mem _ hg)) h2 h3 h4 h5 h6 h7 h8 (hk _ List.mem_cons_self)
  | _, _, _, _, .slEx h1 h2 h3 h4 h5 h6 h7 h8 h9, hc, hk => by
    simp only [closed] at hc
    simp only [Abs.toEx]
    exact .slEx (Reps.toEx h1 hc fun g hg => hk g (List.mem_cons_of_mem _ hg)) h2 h3 h4 h5 h6 h7 h8 (hk _ List.mem_cons_self)
  | _, _, _, _, .nam _, hc, _ => by simp [closed] at hc
  | _, _, _, _, .ept, hc, _ => by simp [closed] at hc
  | _, _, _, _, .als .., hc, _ => by simp [closed] at hc
  | _, _, _, _, .alsA, hc, _ => by simp [closed] at hc
  | _, _, _, _, .agg h1 h2, hc, hk => by
    simp only [closed] at hc
    simp only [Abs.toEx]; exact .agg (Reps.toEx h1 hc hk) h2
  | _, _, _, _, .tup h1, hc, hk => by
    simp only [closed] at hc
    simp only [Abs.toEx]; exact .tup (Reps.toEx h1 hc hk)
  | _, _, _, _, .ptr _, hc, _ => by simp [closed] at hc
  | _, _, _, _, .ref .., hc, _ => by simp [closed] at hc
  | _, _, _, _, .fn .., hc, _ => by simp [closed] at hc
  | _, _, _, _, .optT _, hc, _ => by simp [closed] at hc
  | _, _, _, _, .optF, hc, _ => by simp [closed] at hc
  | _, _, _, _, .undef, hc, _ => by simp [closed] at hc
theorem Reps.toEx : ∀ {bl cs vs L}, Reps P w Pr bl cs vs L → closedL cs = true → (∀ g ∈ L, ∀ a : Addr, Pr' a → a.block ≠ g) → Reps P w Pr' bl (toExL cs) vs L
  | _, _, _, _, .nil, _, _ => by simp only [toExL]; exact .nil
  | _, _, _, _, .cons h1 h2, hc, hk => by
    simp only [closedL, Bool.and_eq_true] at hc
    simp only [toExL]
    exact .cons (Rep.toEx h1 hc.1 fun g hg => hk g (List.mem_append_left _ hg)) (Reps.toEx h2 hc.2 fun g hg => hk g (List.mem_append_right _ hg))
end

mutual
theorem Rep.unx : ∀ {bl c v L}, Rep P w Pr bl c v L → Rep P w Pr bl (Abs.unx c) v L
  | _, _, _, _, .bool => by simpa [Abs.unx] using Rep.bool
  | _, _, _, _, .int => by simpa [Abs.unx] using Rep.int
  | _, _, _, _, .str h h' => by simpa [Abs.unx] using Rep.str h h'
  | _, _, _, _, .slNo h1 h2 h3 h4 h5 => by simp only [Abs.unx]; exact .slNo h1 h2 h3 h4 h5
  | _, _, _, _, .slNil (o := o) => by cases o <;> simp only [Abs.unx, unxL] <;> exact .slNil
  | _, _, _, _, .slOf h1 h2 h3 h4 h5 h6 h7 h8 h9 h10 => by simp only [Abs.unx]; exact .slOf h1 h2 h3 h4 h5 h6 h7 h8 h9 h10
  | _, _, _, _, .slEx h1 h2 h3 h4 h5 h6 h7 h8 h9 => by simp only [Abs.unx]; exact .slEx (Reps.unx h1) h2 h3 h4 h5 h6 h7 h8 h9
  | _, _, _, _, .nam h => by simp only [Abs.unx]; exact Rep.unx h
  | _, _, _, _, .ept => by simp only [Abs.unx]; exact .ept
  | _, _, _, _, .als h1 h2 => by simp only [Abs.unx]; exact .als h1 h2
  | _, _, _, _, .alsA => by simp only [Abs.unx]; exact .alsA
  | _, _, _, _, .agg h1 h2 => by simp only [Abs.unx]; exact .agg (Reps.unx h1) h2
  | _, _, _, _, .tup h1 => by simp only [Abs.unx]; exact .tup (Reps.unx h1)
  | _, _, _, _, .ptr h => by simp only [Abs.unx]; exact .ptr h
  | _, _, _, _, .ref h1 h2 h3 => by simp only [Abs.unx]; exact .ref h1 h2 h3
  | _, _, _, _, .fn h0 h => by simp only [Abs.unx]; exact .fn h0 h
  | _, _, _, _, .optT h => by simp only [Abs.unx]; exact .optT h
  | _, _, _, _, .optF => by simp only [Abs.unx]; exact .optF
  | _, _, _, _, .undef => by simp only [Abs.unx]; exact .undef
theorem Reps.unx : ∀ {bl cs vs L}, Reps P w Pr bl cs vs L → Reps P w Pr bl (unxL cs) vs L
  | _, _, _, _, .nil => by simp only [unxL]; exact .nil
  | _, _, _, _, .cons h1 h2 => by simp only [unxL]; exact .cons (Rep.unx h1) (Reps.unx h2)
end
end
end Go.Proofs.YtkpdlbidadcdjaaDoor.Abs
