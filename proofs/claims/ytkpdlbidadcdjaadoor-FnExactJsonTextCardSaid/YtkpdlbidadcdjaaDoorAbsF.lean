/- The boxes: one is found, one is changed, one is made. No condition. -/
import Derived.Test.YtkpdlbidadcdjaaDoorAbsE
set_option linter.unusedVariables false
set_option linter.unusedSimpArgs false
namespace Go.Proofs.YtkpdlbidadcdjaaDoor.Abs
open Go
section
variable {P : Program} {w : World} {Pr : Addr → Prop}

theorem RepF.set {bl : List (List Nat)} {f : List (List AC)} {gs : List Nat} {L : List Nat} (h : RepF P w Pr bl f gs L) {i : Nat} {cells : List AC} {g : Nat} (hc : f[i]? = some cells) (hg : gs[i]? = some g) (hnd : ∀ x, gs.count x ≤ 1) :
    ∃ (cur : Array Value) (T : TypeId) (Li Lr : List Nat), w.heap[g]? = some (.cells cur T (0, 0)) ∧ Reps P w Pr bl cells cur.toList Li ∧ (∀ v ∈ cur.toList, v.oneCell' = true) ∧ (∀ a, Pr a → a.block ≠ g) ∧ (∀ x, L.count x = Li.count x + Lr.count x) ∧
      ∀ w' Pr' c' cur' L', w'.heap[g]? = some (.cells cur' T (0, 0)) → Reps P w' Pr' bl c' cur'.toList L' → (∀ v ∈ cur'.toList, v.oneCell' = true) → (∀ a, Pr' a → a.block ≠ g) →
        (∀ a, Pr a → Pr' a ∧ w'.cell? a = w.cell? a) → (∀ x ∈ Lr, Kept w Pr w' Pr' x) → (∀ x ∈ gs, x ≠ g → Kept w Pr w' Pr' x) →
        ∃ L2, RepF P w' Pr' bl (f.set i c') gs L2 ∧ ∀ x, L2.count x = L'.count x + Lr.count x := by
  induction f generalizing gs L i with
  | nil => simp at hc
  | cons c f ih =>
    obtain ⟨g0, gs', cur, T, L1, L2, rfl, hh, hr, h1, hpr, hF, rfl⟩ := h
    cases i with
    | zero =>
      simp only [List.getElem?_cons_zero, Option.some.injEq] at hc hg
      subst hc; subst hg
      refine ⟨cur, T, L1, L2, hh, hr, h1, hpr, fun x => by simp, ?_⟩
      intro w' Pr' c' cur' L' k1 k2 k3 k4 k5 k6 k7
      refine ⟨L' ++ L2, ⟨_, _, cur', T, L', L2, rfl, k1, k2, k3, k4, hF.kept k5 k6 (fun x hx => k7 x (List.mem_cons_of_mem _ hx) fun e => ?_), rfl⟩, fun x => by simp⟩
      subst e
      have := hnd x
      rw [List.count_cons_self] at this
      have := List.count_pos_iff.2 hx
      omega
    | succ i =>
      simp only [List.getElem?_cons_succ] at hc hg
      have hnd' : ∀ x, gs'.count x ≤ 1 := fun x => by have := hnd x; rw [List.count_cons] at this; omega
      obtain ⟨cur1, T1, Li, Lr, e1, e2, e3, e4, e5, e6⟩ := ih hF hc hg hnd'
      refine ⟨cur1, T1, Li, L1 ++ Lr, e1, e2, e3, e4, fun x => by simp only [List.count_append]; have := e5 x; omega, ?_⟩
      intro w' Pr' c' cur' L' k1 k2 k3 k4 k5 k6 k7
      obtain ⟨L2', r1, r2⟩ := e6 w' Pr' c' cur' L' k1 k2 k3 k4 k5 (fun x hx => k6 x (List.mem_append_right _ hx)) (fun x hx hne => k7 x (List.mem_cons_of_mem _ hx) hne)
      have hne : g0 ≠ g := by
        intro e; subst e
        have := hnd g0
        rw [List.count_cons_self] at this
        have := List.count_pos_iff.2 (List.mem_of_getElem? hg)
        omega
      have hk0 := k7 g0 List.mem_cons_self hne
      refine ⟨L1 ++ L2', ⟨g0, gs', cur, T, L1, L2', rfl, hk0.heap.trans hh, hr.kept k5 (fun x hx => k6 x (List.mem_append_left _ hx)), h1, fun a ha e => hpr a (hk0.pr a ha e) e, r1, rfl⟩, fun x => by simp only [List.count_append]; have := r2 x; omega⟩

theorem RepK.set {bl : List (List Nat)} {K : List (List (List AC))} {L : List Nat} (h : RepK P w Pr K bl L) {u i : Nat} {cells : List AC} {g : Nat} (hc : getBox K u i = some cells) (hg : (bl[u]?).bind (·[i]?) = some g)
    (hnd : ∀ x, bl.flatten.count x ≤ 1) :
    ∃ (cur : Array Value) (T : TypeId) (Li Lr : List Nat), w.heap[g]? = some (.cells cur T (0, 0)) ∧ Reps P w Pr (bl.drop u) cells cur.toList Li ∧ (∀ v ∈ cur.toList, v.oneCell' = true) ∧ (∀ a, Pr a → a.block ≠ g) ∧ g ∈ bl.flatten ∧ (∀ x, L.count x = Li.count x + Lr.count x) ∧
      ∀ w' Pr' c' cur' L', w'.heap[g]? = some (.cells cur' T (0, 0)) → Reps P w' Pr' (bl.drop u) c' cur'.toList L' → (∀ v ∈ cur'.toList, v.oneCell' = true) → (∀ a, Pr' a → a.block ≠ g) →
        (∀ a, Pr a → Pr' a ∧ w'.cell? a = w.cell? a) → (∀ x ∈ Lr, Kept w Pr w' Pr' x) → (∀ x ∈ bl.flatten, x ≠ g → Kept w Pr w' Pr' x) →
        ∃ L2, RepK P w' Pr' (setBox K u i c') bl L2 ∧ ∀ x, L2.count x = L'.count x + Lr.count x := by
  induction K generalizing bl L u with
  | nil => simp [getBox] at hc
  | cons f K ih =>
    obtain ⟨b, bl', L1, L2, rfl, hF, hK, rfl⟩ := h
    have hb : ∀ x, b.count x + bl'.flatten.count x ≤ 1 := fun x => by have := hnd x; simpa using this
    cases u with
    | zero =>
      simp only [getBox, List.getElem?_cons_zero, Option.bind_some] at hc hg
      obtain ⟨cur, T, Li, Lr, e1, e2, e3, e4, e5, e6⟩ := hF.set hc hg (fun x => by have := hb x; omega)
      refine ⟨cur, T, Li, Lr ++ L2, e1, e2, e3, e4, by simp [List.mem_of_getElem? hg], fun x => by simp only [List.count_append]; have := e5 x; omega, ?_⟩
      intro w' Pr' c' cur' L' k1 k2 k3 k4 k5 k6 k7
      obtain ⟨L2', r1, r2⟩ := e6 w' Pr' c' cur' L' k1 k2 k3 k4 k5 (fun x hx => k6 x (List.mem_append_left _ hx)) (fun x hx hne => k7 x (by simp [hx]) hne)
      have hK' : RepK P w' Pr' K bl' L2 := hK.kept k5 (fun x hx => k6 x (List.mem_append_right _ hx)) (fun x hx => k7 x (by simpa using .inr (by simpa using hx)) (fun e => by
        subst e
        have := hb x
        have := List.count_pos_iff.2 (List.mem_of_getElem? hg)
        have := List.count_pos_iff.2 hx
        omega))
      refine ⟨L2' ++ L2, ?_, fun x => by simp only [List.count_append]; have := r2 x; omega⟩
      simp only [setBox, List.getElem?_cons_zero, List.set_cons_zero]
      exact ⟨b, bl', L2', L2, rfl, r1, hK', rfl⟩
    | succ u =>
      simp only [getBox, List.getElem?_cons_succ] at hc
      simp only [List.getElem?_cons_succ] at hg
      obtain ⟨cur, T, Li, Lr, e1, e2, e3, e4, e0, e5, e6⟩ := ih hK hc hg (fun x => by have := hb x; omega)
      refine ⟨cur, T, Li, L1 ++ Lr, e1, e2, e3, e4, by simpa using .inr (by simpa using e0), fun x => by simp only [List.count_append]; have := e5 x; omega, ?_⟩
      intro w' Pr' c' cur' L' k1 k2 k3 k4 k5 k6 k7
      obtain ⟨L2', r1, r2⟩ := e6 w' Pr' c' cur' L' k1 k2 k3 k4 k5 (fun x hx => k6 x (List.mem_append_right _ hx)) (fun x hx hne => k7 x (by simpa using .inr (by simpa using hx)) hne)
      have hF' : RepF P w' Pr' (b :: bl') f b L1 := hF.kept k5 (fun x hx => k6 x (List.mem_append_left _ hx)) (fun x hx => k7 x (by simp [hx]) (fun e => by
        subst e
        have := hb x
        have := List.count_pos_iff.2 hx
        have := List.count_pos_iff.2 e0
        omega))
      refine ⟨L1 ++ L2', ?_, fun x => by simp only [List.count_append]; have := r2 x; omega⟩
      have es : setBox (f :: K) (u + 1) i c' = f :: setBox K u i c' := by
        simp only [setBox, List.getElem?_cons_succ]
        cases K[u]? <;> simp
      rw [es]
      exact ⟨b, bl', L1, L2', rfl, hF', r1, rfl⟩

theorem RepF.push {bl : List (List Nat)} {f : List (List AC)} {gs : List Nat} {L : List Nat} (h : RepF P w Pr bl f gs L) {c : List AC} {g : Nat} {cur : Array Value} {T : TypeId} {L1 : List Nat}
    (h1 : w.heap[g]? = some (.cells cur T (0, 0))) (h2 : Reps P w Pr bl c cur.toList L1) (h3 : ∀ v ∈ cur.toList, v.oneCell' = true) (h4 : ∀ a, Pr a → a.block ≠ g) :
    ∃ L2, RepF P w Pr bl (f ++ [c]) (gs ++ [g]) L2 ∧ ∀ x, L2.count x = L.count x + L1.count x := by
  induction f generalizing gs L with
  | nil =>
    obtain ⟨rfl, rfl⟩ := h
    exact ⟨L1, ⟨g, [], cur, T, L1, [], rfl, h1, h2, h3, h4, ⟨rfl, rfl⟩, by simp⟩, fun x => by simp⟩
  | cons c0 f ih =>
    obtain ⟨g0, gs', cur0, T0, L1', L2', rfl, hh, hr, k1, hpr, hF, rfl⟩ := h
    obtain ⟨L2, r1, r2⟩ := ih hF
    exact ⟨L1' ++ L2, ⟨g0, gs' ++ [g], cur0, T0, L1', L2, rfl, hh, hr, k1, hpr, r1, rfl⟩, fun x => by simp only [List.count_append]; have := r2 x; omega⟩
end
end Go.Proofs.YtkpdlbidadcdjaaDoor.Abs
