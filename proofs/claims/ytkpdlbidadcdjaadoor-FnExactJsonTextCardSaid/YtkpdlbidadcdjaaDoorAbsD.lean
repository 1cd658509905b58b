/- Reading slots into registers, writing registers into slots, a change of the world. No condition. -/
import Derived.Test.YtkpdlbidadcdjaaDoorAbsC
set_option linter.unusedVariables false
namespace Go.Proofs.YtkpdlbidadcdjaaDoor.Abs
open Go
section
variable {C : Cx} {st : St} {a : Act} {w w' : World} {Pr Pr' : Addr → Prop} {b : List Nat} {xs : List AC} {vs : List Value}

theorem St.get_cases (st : St) (k : Nat) : (∃ v, look k st.loc = some v ∧ st.get k = v) ∨ (look k st.loc = none ∧ ∃ v, look k st.env = some v ∧ st.get k = v) ∨ (look k st.loc = none ∧ look k st.env = none ∧ st.get k = .undef) := by
  unfold St.get
  cases h : look k st.loc with
  | some v => exact .inl ⟨v, rfl, rfl⟩
  | none =>
    cases h' : look k st.env with
    | some v => exact .inr (.inl ⟨rfl, v, rfl, rfl⟩)
    | none => exact .inr (.inr ⟨rfl, rfl, rfl⟩)

theorem getD_of {tmps : Array Value} {k : Nat} {x : Value} (h : tmps[k]? = some x) : tmps.getD k undef = x := by
  simp [h]

/-- What a slot holds. -/
theorem SRL.get {Le Ll Lx Lk} (h : SRL C st a w Pr b xs vs Le Ll Lx Lk) (k : Nat) :
    ∃ L, Rep C.P w Pr (b :: C.bl0) (st.get k) (a.tmps.getD k undef) L ∧ ∀ y, L.count y ≤ Le.count y + Ll.count y := by
  rcases st.get_cases k with ⟨v, h1, h2⟩ | ⟨_, v, h1, h2⟩ | ⟨_, _, h2⟩
  · obtain ⟨x, L, hx, hr, hc⟩ := h.loc.look h1
    rw [h2, getD_of hx]; exact ⟨L, hr, fun y => by have := hc y; omega⟩
  · obtain ⟨x, L, hx, hr, hc⟩ := h.env.look h1
    rw [h2, getD_of hx]; exact ⟨L, hr, fun y => by have := hc y; omega⟩
  · rw [h2]; exact ⟨[], .undef, fun y => by simp⟩

theorem SRL.ev {Le Ll Lx Lk} (h : SRL C st a w Pr b xs vs Le Ll Lx Lk) (x : Operand) : Rep C.P w Pr (b :: C.bl0) (share (st.ev x)) (a.eval x) [] := by
  cases x with
  | tmp t => obtain ⟨L, hr, _⟩ := h.get t; exact hr.share
  | const v => exact (rep_ofV v).share
  | func f => simp only [St.ev, share, Act.eval]; exact .fn (by simp) .nil
  | global g => simp only [St.ev, share]; exact .undef

/-- What an operand is, with all that it holds alone. -/
theorem SR.full (h : SR C st a w Pr b xs vs) (x : Operand) : ∃ L, Rep C.P w Pr (b :: C.bl0) (st.ev x) (a.eval x) L := by
  obtain ⟨Le, Ll, Lx, Lk, h0⟩ := h
  cases x with
  | tmp t => obtain ⟨L, hl, _⟩ := h0.get t; exact ⟨L, hl⟩
  | const v => exact ⟨[], rep_ofV v⟩
  | func f => exact ⟨[], .fn (by simp) .nil⟩
  | global g => exact ⟨[], .undef⟩

theorem SR.ev (h : SR C st a w Pr b xs vs) (x : Operand) : Rep C.P w Pr (b :: C.bl0) (share (st.ev x)) (a.eval x) [] := by
  obtain ⟨Le, Ll, Lx, Lk, h⟩ := h; exact h.ev x

/-- A register more that holds nothing alone. -/
theorem SR.push (h : SR C st a w Pr b xs vs) {c v} (hr : Rep C.P w Pr (b :: C.bl0) c v []) : SR C st a w Pr b (c :: xs) (v :: vs) := by
  obtain ⟨Le, Ll, Lx, Lk, h⟩ := h
  exact ⟨Le, Ll, Lx, Lk, { h with reg := by simpa using Reps.cons hr h.reg }⟩

/-- A register less. -/
theorem SR.pop {c v} (h : SR C st a w Pr b (c :: xs) (v :: vs)) : SR C st a w Pr b xs vs := by
  obtain ⟨Le, Ll, Lx, Lk, h⟩ := h
  have hreg := h.reg
  cases hreg with
  | cons h1 h2 =>
    rename_i L M
    exact ⟨Le, Ll, M, Lk, { h with
      reg := h2
      cnt := fun x => by have := h.cnt x; simp only [List.count_append] at this ⊢; omega
      new := fun x hx => h.new x (by simp only [List.count_append] at hx ⊢; omega) }⟩

/-- A register that says less. -/
theorem SR.weaken {c d v} (h : SR C st a w Pr b (c :: xs) (v :: vs)) (hd : ∀ L, Rep C.P w Pr (b :: C.bl0) c v L → ∃ L', Rep C.P w Pr (b :: C.bl0) d v L' ∧ ∀ x, L'.count x ≤ L.count x) :
    SR C st a w Pr b (d :: xs) (v :: vs) := by
  obtain ⟨Le, Ll, Lx, Lk, h⟩ := h
  have hreg := h.reg
  cases hreg with
  | cons h1 h2 =>
    rename_i L M
    obtain ⟨L', hr, hc⟩ := hd L h1
    exact ⟨Le, Ll, L' ++ M, Lk, { h with
      reg := .cons hr h2
      cnt := fun x => by have := h.cnt x; have := hc x; simp only [List.count_append] at *; omega
      new := fun x hx => h.new x (by have := hc x; simp only [List.count_append] at hx ⊢; omega) }⟩

theorem SR.share1 {c v} (h : SR C st a w Pr b (c :: xs) (v :: vs)) : SR C st a w Pr b (share c :: xs) (v :: vs) :=
  h.weaken fun L hr => ⟨[], hr.share, fun x => by simp⟩

/-- A slot's value with all that it holds alone is taken into a register. -/
theorem SR.take (h : SR C st a w Pr b xs vs) (k : Nat) : SR C (st.weak k) a w Pr b (st.get k :: xs) (a.tmps.getD k undef :: vs) := by
  obtain ⟨Le, Ll, Lx, Lk, h⟩ := h
  rcases st.get_cases k with ⟨v, h1, h2⟩ | ⟨h0, v, h1, h2⟩ | ⟨h0, h1, h2⟩
  · obtain ⟨x, Lv, L', hx, hr, hE, hc⟩ := h.loc.weak h1
    rw [h2, getD_of hx]
    have hw : st.weak k = { st with loc := setE k (share v) st.loc } := by unfold St.weak; rw [h1]
    rw [hw]
    refine ⟨Le, L', Lv ++ Lx, Lk, { h with loc := hE, reg := .cons hr h.reg, cnt := fun x => ?_, new := fun x hx' => h.new x ?_, kL := ⟨nodup_setE _ _ _ h.kL.1, fun j hj => ?_⟩ }⟩
    · have := h.cnt x; have := hc x; simp only [List.count_append]; omega
    · have := hc x; simp only [List.count_append] at hx' ⊢; omega
    · rcases (keys_setE _ _ _ j).1 hj with rfl | hj
      · refine h.kL.2 _ ?_
        clear hw hE hc h2 hr h
        revert h1
        induction st.loc with
        | nil => intro h; simp [look] at h
        | cons e r ih =>
          intro h
          simp only [look] at h
          split at h
          · rename_i e'; simp [e']
          · simp [ih h]
      · exact h.kL.2 _ hj
  · obtain ⟨x, Lv, L', hx, hr, hE, hc⟩ := h.env.weak h1
    rw [h2, getD_of hx]
    have hw : st.weak k = { st with env := setE k (share v) st.env } := by unfold St.weak; rw [h0, h1]
    rw [hw]
    refine ⟨L', Ll, Lv ++ Lx, Lk, { h with env := hE, reg := .cons hr h.reg, cnt := fun x => ?_, new := fun x hx' => h.new x ?_, kE := ⟨nodup_setE _ _ _ h.kE.1, fun j hj => ?_⟩ }⟩
    · have := h.cnt x; have := hc x; simp only [List.count_append]; omega
    · have := hc x; simp only [List.count_append] at hx' ⊢; omega
    · rcases (keys_setE _ _ _ j).1 hj with rfl | hj
      · refine h.kE.2 _ ?_
        clear hw hE hc h2 hr h
        revert h1
        induction st.env with
        | nil => intro h; simp [look] at h
        | cons e r ih =>
          intro h
          simp only [look] at h
          split at h
          · rename_i e'; simp [e']
          · simp [ih h]
      · exact h.kE.2 _ hj
  · rw [h2]
    have hw : st.weak k = st := by unfold St.weak; rw [h0, h1]
    rw [hw]
    exact SR.push ⟨Le, Ll, Lx, Lk, h⟩ .undef

/-- A register goes into a slot. -/
theorem SR.put {c v} (h : SR C st a w Pr b (c :: xs) (v :: vs)) (dst : Option Nat) (hd : ∀ k, dst = some k → k < C.N) : SR C (st.put C.fi dst c) (a.put dst v) w Pr b xs vs := by
  cases dst with
  | none => exact h.pop
  | some k =>
    obtain ⟨Le, Ll, Lx, Lk, h⟩ := h
    have hk := hd k rfl
    have hreg := h.reg
    cases hreg with
    | cons h1 h2 =>
      rename_i L M
      simp only [St.put, Act.put]
      cases hv : C.fi.isVar k with
      | true =>
        simp only [if_true]
        obtain ⟨L', hE, hc⟩ := h.env.put h.kE.1 (by rw [h.size]; exact hk) h1
        refine ⟨L', Ll, M, Lk, { env := hE, loc := ?_, reg := h2, K := h.K, cnt := fun x => ?_, new := fun x hx => h.new x ?_, kE := ⟨nodup_setE _ _ _ h.kE.1, fun j hj => ?_⟩, kL := h.kL, prlt := h.prlt, since := h.since, defers := h.defers, size := by simpa using h.size }⟩
        · exact h.loc.other (fun hm => by have := h.kL.2 k hm; rw [hv] at this; cases this)
        · have := h.cnt x; have := hc x; simp only [List.count_append] at *; omega
        · have := hc x; simp only [List.count_append] at hx ⊢; omega
        · rcases (keys_setE _ _ _ j).1 hj with rfl | hj
          · exact hv
          · exact h.kE.2 _ hj
      | false =>
        simp only [Bool.false_eq_true, if_false]
        obtain ⟨L', hE, hc⟩ := h.loc.put h.kL.1 (by rw [h.size]; exact hk) h1
        refine ⟨Le, L', M, Lk, { env := ?_, loc := hE, reg := h2, K := h.K, cnt := fun x => ?_, new := fun x hx => h.new x ?_, kE := h.kE, kL := ⟨nodup_setE _ _ _ h.kL.1, fun j hj => ?_⟩, prlt := h.prlt, since := h.since, defers := h.defers, size := by simpa using h.size }⟩
        · exact h.env.other (fun hm => by have := h.kE.2 k hm; rw [hv] at this; cases this)
        · have := h.cnt x; have := hc x; simp only [List.count_append] at *; omega
        · have := hc x; simp only [List.count_append] at hx ⊢; omega
        · rcases (keys_setE _ _ _ j).1 hj with rfl | hj
          · exact hv
          · exact h.kL.2 _ hj

theorem SR.dropLoc (h : SR C st a w Pr b xs vs) : SR C { st with loc := [] } a w Pr b xs vs := by
  obtain ⟨Le, Ll, Lx, Lk, h⟩ := h
  exact ⟨Le, [], Lx, Lk, { h with loc := rfl, kL := by simp, cnt := fun x => by have := h.cnt x; simp only [List.count_nil]; omega, new := fun x hx => h.new x (by simp only [List.count_nil] at hx; omega) }⟩

/-- An operand under its guard. -/
theorem un_sound {gd : Option Bool} {v : AC} {k : AC → Prop} (hu : un gd v k) (hg : gOk gd) : ∃ u, k u ∧ ∀ {P w Pr bl x L}, Rep P w Pr bl v x L → Rep P w Pr bl u x L := by
  unfold un at hu
  split at hu
  · exact ⟨_, hu.2, fun h => h.opt_inv (hu.1 hg)⟩
  · exact ⟨_, hu, fun h => h.nam_inv⟩
  · exact ⟨_, hu, fun h => h⟩

theorem un_share {gd : Option Bool} {v : AC} {k : AC → Prop} (hu : un gd v k) (hg : gOk gd) : ∃ u, k u ∧ (∀ {P w Pr bl x L}, Rep P w Pr bl v x L → Rep P w Pr bl u x L) ∧ ∀ {P w Pr bl x L}, Rep P w Pr bl (share v) x L → Rep P w Pr bl (share u) x L := by
  unfold un at hu
  split at hu
  · refine ⟨_, hu.2, fun h => h.opt_inv (hu.1 hg), fun h => ?_⟩
    simp only [share] at h
    exact h.opt_inv (hu.1 hg)
  · refine ⟨_, hu, fun h => h.nam_inv, fun h => ?_⟩
    simpa only [share] using h
  · exact ⟨_, hu, fun h => h, fun h => h⟩

/-- An operand read under its guard, shared. -/
theorem SR.un (h : SR C st a w Pr b xs vs) {gd : Option Bool} {x : Operand} {k : AC → Prop} (hu : Abs.un gd (st.ev x) k) (hg : gOk gd) :
    ∃ u, k u ∧ Rep C.P w Pr (b :: C.bl0) (share u) (a.eval x) [] := by
  obtain ⟨u, hk, _, h2⟩ := un_share hu hg
  exact ⟨u, hk, h2 (h.ev x)⟩

theorem SR.wT (h : SR C st a w Pr b xs vs) {m : Bool} {gd : Option Bool} {x : Operand} {k : AC → St → Prop} (hu : Abs.wT C.fi m gd st x k) (hg : gOk gd) :
    ∃ u st', k u st' ∧ SR C st' a w Pr b (u :: xs) (a.eval x :: vs) ∧ st'.K = st.K ∧ (m = false → st' = st) := by
  unfold Abs.wT at hu
  split at hu
  · rename_i t
    obtain ⟨u, hk, h1, h2⟩ := un_share hu hg
    split at hk
    · rename_i hm
      refine ⟨u, _, hk, (h.take t).weaken fun L hr => ⟨L, h1 hr, fun x => Nat.le_refl _⟩, ?_, fun e => by simp [e] at hm⟩
      unfold St.weak; split
      · rfl
      · split <;> rfl
    · exact ⟨_, _, hk, h.push (h2 (h.ev (.tmp t))), rfl, fun _ => rfl⟩
  · rename_i hx
    refine ⟨_, _, hu, h.push ?_, rfl, fun _ => rfl⟩
    cases x with
    | tmp t => exact absurd rfl (hx t)
    | const v => exact rep_ofV v
    | func f => exact .fn (by simp) .nil
    | global g => exact .undef

theorem look_mem {k : Nat} {v : AC} : ∀ {env : List (Nat × AC)}, look k env = some v → k ∈ env.map (·.1) := by
  intro env
  induction env with
  | nil => intro h; simp [look] at h
  | cons e r ih =>
    intro h
    simp only [look] at h
    split at h
    · rename_i e'; simp [e']
    · simp [ih h]

/-- A slot's value may be told anew, in a world that is another only there. -/
theorem RepE.repl {P : Program} {bl : List (List Nat)} {tmps : Array Value} {env L k v} (h : RepE P w Pr bl tmps env L) (hk : Abs.look k env = some v) :
    ∃ (x : Value) (Lv L0 : List Nat), tmps[k]? = some x ∧ Rep P w Pr bl v x Lv ∧ (∀ y, Lv.count y + L0.count y = L.count y) ∧
      ∀ (w' : World) (Pr' : Addr → Prop) (bl' : List (List Nat)) (v' : AC) (L' : List Nat), (∀ c z M, Rep P w Pr bl c z M → (∀ g ∈ M, g ∈ L0) → Rep P w' Pr' bl' c z M) →
        Rep P w' Pr' bl' v' x L' → ∃ L2, RepE P w' Pr' bl' tmps (setE k v' env) L2 ∧ ∀ y, L2.count y = L0.count y + L'.count y := by
  induction env generalizing L with
  | nil => simp [Abs.look] at hk
  | cons e env ih =>
    obtain ⟨k', u⟩ := e
    obtain ⟨L1, L2, x, hx, hr, hE, rfl⟩ := h
    have hkeep : ∀ (L0 : List Nat) (w' : World) (Pr' : Addr → Prop) (bl' : List (List Nat)), (∀ c z M, Rep P w Pr bl c z M → (∀ g ∈ M, g ∈ L0) → Rep P w' Pr' bl' c z M) →
        ∀ (env : List (Nat × AC)) (L : List Nat), RepE P w Pr bl tmps env L → (∀ g ∈ L, g ∈ L0) → RepE P w' Pr' bl' tmps env L := by
      intro L0 w' Pr' bl' hkp env
      induction env with
      | nil => intro L h _; exact h
      | cons e env ih =>
        intro L h hin
        obtain ⟨j, c⟩ := e
        obtain ⟨M1, M2, z, hz, hrz, hEz, rfl⟩ := h
        exact ⟨M1, M2, z, hz, hkp _ _ _ hrz (fun g hg => hin g (List.mem_append_left _ hg)), ih M2 hEz (fun g hg => hin g (List.mem_append_right _ hg)), rfl⟩
    simp only [Abs.look] at hk
    split at hk
    · rename_i e; subst e
      cases hk
      refine ⟨x, L1, L2, hx, hr, fun y => by simp, fun w' Pr' bl' v' L' hkp hr' => ?_⟩
      refine ⟨L' ++ L2, ?_, fun y => by simp only [List.count_append]; omega⟩
      simp only [setE, if_true]
      exact ⟨L', L2, x, hx, hr', hkeep L2 w' Pr' bl' hkp env L2 hE (fun g hg => hg), rfl⟩
    · rename_i hne
      obtain ⟨x', Lv, L0, h1, h2, h3, h4⟩ := ih hE hk
      refine ⟨x', Lv, L1 ++ L0, h1, h2, fun y => by have := h3 y; simp only [List.count_append]; omega, fun w' Pr' bl' v' L' hkp hr' => ?_⟩
      obtain ⟨L3, g1, g2⟩ := h4 w' Pr' bl' v' L' (fun c z M hM hin => hkp c z M hM fun g hg => List.mem_append_right _ (hin g hg)) hr'
      refine ⟨L1 ++ L3, ?_, fun y => by have := g2 y; simp only [List.count_append]; omega⟩
      simp only [setE, if_neg hne]
      exact ⟨L1, L3, x, hx, hkp _ _ _ hr (fun g hg => List.mem_append_left _ hg), g1, rfl⟩

theorem RepE.keep {P : Program} {bl bl' : List (List Nat)} {tmps : Array Value} (L0 : List Nat) (hkp : ∀ c z M, Rep P w Pr bl c z M → (∀ g ∈ M, g ∈ L0) → Rep P w' Pr' bl' c z M) :
    ∀ {env : List (Nat × AC)} {L : List Nat}, RepE P w Pr bl tmps env L → (∀ g ∈ L, g ∈ L0) → RepE P w' Pr' bl' tmps env L := by
  intro env
  induction env with
  | nil => intro L h _; exact h
  | cons e env ih =>
    intro L h hin
    obtain ⟨j, c⟩ := e
    obtain ⟨M1, M2, z, hz, hrz, hEz, rfl⟩ := h
    exact ⟨M1, M2, z, hz, hkp _ _ _ hrz (fun g hg => hin g (List.mem_append_left _ hg)), ih hEz (fun g hg => hin g (List.mem_append_right _ hg)), rfl⟩

/-- What a slot holds, and how to tell it anew. -/
theorem SRL.slot {Le Ll Lx Lk} (h : SRL C st a w Pr b xs vs Le Ll Lx Lk) {k : Nat} {v : AC} (hk : st.get k = v) (hv : v ≠ .undef) :
    ∃ (x : Value) (Lv Lr : List Nat), a.tmps[k]? = some x ∧ Rep C.P w Pr (b :: C.bl0) v x Lv ∧ (∀ y, Lv.count y + Lr.count y = Le.count y + Ll.count y) ∧ ∀ v', (st.setAt k v').K = st.K ∧
      (((st.setAt k v').env.map (·.1)).Nodup ∧ ∀ j ∈ (st.setAt k v').env.map (·.1), C.fi.isVar j = true) ∧ (((st.setAt k v').loc.map (·.1)).Nodup ∧ ∀ j ∈ (st.setAt k v').loc.map (·.1), C.fi.isVar j = false) ∧
      ∀ (w' : World) (Pr' : Addr → Prop) (bl' : List (List Nat)) (L' : List Nat), (∀ c z M, Rep C.P w Pr (b :: C.bl0) c z M → (∀ g ∈ M, g ∈ Lr) → Rep C.P w' Pr' bl' c z M) →
        Rep C.P w' Pr' bl' v' x L' → ∃ Le' Ll', RepE C.P w' Pr' bl' a.tmps (st.setAt k v').env Le' ∧ RepE C.P w' Pr' bl' a.tmps (st.setAt k v').loc Ll' ∧ ∀ y, Le'.count y + Ll'.count y = Lr.count y + L'.count y := by
  rcases st.get_cases k with ⟨u, h1, h2⟩ | ⟨h0, u, h1, h2⟩ | ⟨h0, h1, h2⟩
  · rw [hk] at h2; subst h2
    obtain ⟨x, Lv, L0, hx, hr, hc, hrep⟩ := h.loc.repl h1
    refine ⟨x, Lv, Le ++ L0, hx, hr, fun y => by have := hc y; simp only [List.count_append]; omega, fun v' => ?_⟩
    have hw : st.setAt k v' = { st with loc := setE k v' st.loc } := by unfold St.setAt; rw [h1]
    rw [hw]
    refine ⟨rfl, h.kE, ⟨nodup_setE _ _ _ h.kL.1, fun j hj => ?_⟩, fun w' Pr' bl' L' hkp hr' => ?_⟩
    · rcases (keys_setE _ _ _ j).1 hj with rfl | hj
      · exact h.kL.2 _ (look_mem h1)
      · exact h.kL.2 _ hj
    · obtain ⟨L2, g1, g2⟩ := hrep w' Pr' bl' v' L' (fun c z M hM hin => hkp c z M hM fun g hg => List.mem_append_right _ (hin g hg)) hr'
      exact ⟨Le, L2, h.env.keep (Le ++ L0) hkp (fun g hg => List.mem_append_left _ hg), g1, fun y => by have := g2 y; simp only [List.count_append]; omega⟩
  · rw [hk] at h2; subst h2
    obtain ⟨x, Lv, L0, hx, hr, hc, hrep⟩ := h.env.repl h1
    refine ⟨x, Lv, L0 ++ Ll, hx, hr, fun y => by have := hc y; simp only [List.count_append]; omega, fun v' => ?_⟩
    have hw : st.setAt k v' = { st with env := setE k v' st.env } := by unfold St.setAt; rw [h0]
    rw [hw]
    refine ⟨rfl, ⟨nodup_setE _ _ _ h.kE.1, fun j hj => ?_⟩, h.kL, fun w' Pr' bl' L' hkp hr' => ?_⟩
    · rcases (keys_setE _ _ _ j).1 hj with rfl | hj
      · exact h.kE.2 _ (look_mem h1)
      · exact h.kE.2 _ hj
    · obtain ⟨L2, g1, g2⟩ := hrep w' Pr' bl' v' L' (fun c z M hM hin => hkp c z M hM fun g hg => List.mem_append_left _ (hin g hg)) hr'
      exact ⟨L2, Ll, g1, h.loc.keep (L0 ++ Ll) hkp (fun g hg => List.mem_append_right _ hg), fun y => by have := g2 y; simp only [List.count_append]; omega⟩
  · rw [hk] at h2; exact absurd h2 hv

/-- A slot's value told anew in the same world. -/
theorem SR.setAt (h : SR C st a w Pr b xs vs) {k : Nat} {v v' : AC} (hk : st.get k = v) (hv : v ≠ .undef)
    (hr : ∀ x L, a.tmps.getD k undef = x → Rep C.P w Pr (b :: C.bl0) v x L → ∃ L', Rep C.P w Pr (b :: C.bl0) v' x L' ∧ ∀ y, L'.count y ≤ L.count y) : SR C (st.setAt k v') a w Pr b xs vs := by
  obtain ⟨Le, Ll, Lx, Lk, h⟩ := h
  obtain ⟨x, Lv, Lr, hx, hrv, hc, hset⟩ := h.slot hk hv
  obtain ⟨L', hr', hc'⟩ := hr x Lv (getD_of hx) hrv
  obtain ⟨eK, kE, kL, hset⟩ := hset v'
  obtain ⟨Le', Ll', g1, g2, g3⟩ := hset w Pr _ L' (fun c z M hM _ => hM) hr'
  refine ⟨Le', Ll', Lx, Lk, { h with env := g1, loc := g2, K := by rw [eK]; exact h.K, cnt := fun y => ?_, new := fun y hy => h.new y ?_, kE := kE, kL := kL }⟩
  · have := h.cnt y; have := g3 y; have := hc y; have := hc' y; omega
  · have := g3 y; have := hc y; have := hc' y; omega

/-- The world changes elsewhere. -/
theorem SR.world (h : SR C st a w Pr b xs vs) (hp : ∀ p, Pr p → Pr' p ∧ w'.cell? p = w.cell? p) (hg : ∀ g, g < w.heap.size → Kept w Pr w' Pr' g)
    (hl : ∀ p, Pr' p → p.block < w'.heap.size) (hs : Since C.w0 C.Pr0 C.F w' Pr') : SR C st a w' Pr' b xs vs := by
  obtain ⟨Le, Ll, Lx, Lk, h⟩ := h
  exact ⟨Le, Ll, Lx, Lk, { h with
    env := h.env.kept hp fun g hg' => hg g (h.env.own_lt g hg')
    loc := h.loc.kept hp fun g hg' => hg g (h.loc.own_lt g hg')
    reg := h.reg.kept hp fun g hg' => hg g (h.reg.own_lt g hg')
    K := h.K.kept hp (fun g hg' => hg g (h.K.own_lt g hg')) (fun g hg' => hg g (h.K.box_lt g hg'))
    prlt := hl
    since := hs }⟩

/-- A block more, of which nothing is promised yet. -/
theorem SR.alloc (h : SR C st a w Pr b xs vs) (o : Obj) : SR C st a (w.alloc o) Pr b xs vs := by
  have h0 := h
  obtain ⟨Le, Ll, Lx, Lk, hl⟩ := h0
  refine h.world (fun p hp => ⟨hp, World.cell?_alloc_lt w o p (hl.prlt p hp)⟩) (fun g hg => ⟨heap_alloc_old w o g hg, fun p hp _ => hp⟩) (fun p hp => ?_) ?_
  · have := hl.prlt p hp; simp; omega
  · have hs := hl.since
    exact ⟨hs.os, hs.tape, hs.output, by have := hs.size; simp; omega, fun g hg hF => (heap_alloc_old w o g (by have := hs.size; omega)).trans (hs.block g hg hF),
      fun p hp => ⟨(hs.prot p hp).1, (World.cell?_alloc_lt w o p (hl.prlt p (hs.prot p hp).1)).trans (hs.prot p hp).2⟩, hs.newPr⟩

theorem SR.drew (h : SR C st a w Pr b xs vs) : SR C st a w.drew Pr b xs vs := by
  have h0 := h
  obtain ⟨Le, Ll, Lx, Lk, hl⟩ := h0
  have hs := hl.since
  exact h.world (fun p hp => ⟨hp, rfl⟩) (fun g hg => ⟨rfl, fun p hp _ => hp⟩) hl.prlt ⟨hs.os, hs.tape, hs.output, hs.size, hs.block, hs.prot, hs.newPr⟩
end
end Go.Proofs.YtkpdlbidadcdjaaDoor.Abs
