/- What a call's arguments are: data of their types. No condition. -/
import Derived.Test.YtkpdlbidadcdjaaDoorAbsQ
import GoSem.ClaimJoined
import Derived.Carry
set_option linter.unusedVariables false
set_option linter.unusedSimpArgs false
namespace Go.Proofs.YtkpdlbidadcdjaaDoor.Abs
open Go

/-- Cells that are data of a type. -/
inductive Typed (P : Program) : TypeId → List AC → Prop
  | bool {t b} : P.underlying t = some .bool → Typed P t [.bool b]
  | int {t k n} : P.underlying t = some (.int k) → (Lit.int k n).wf = true → Typed P t [.int k n]
  | str {t s} : P.underlying t = some .string → s.length ≤ reachBytes → Typed P t [.str s]
  | slice {t e n cells} : P.underlying t = some (.slice e) → 0 < P.cellsOf e → cells.length = n * P.cellsOf e → n * P.bytesOf e ≤ reachBytes →
      (∀ i, i < n → Typed P e ((cells.drop (i * P.cellsOf e)).take (P.cellsOf e))) → Typed P t [.sl .no n cells]
  | struct {t fs cells} : P.underlying t = some (.struct fs) → cells.length = P.cellsOf t → (∀ f ∈ fs.toList, Typed P f.type ((cells.drop f.offset).take (P.cellsOf f.type))) → Typed P t cells

def layOk (P : Program) : Nat → List Field → Nat → Bool
  | n, [], m => n == m
  | n, f :: fs, m => f.offset == n && layOk P (n + P.cellsOf f.type) fs m

/-- A set of types that leads to no other kinds of types. -/
def closedSet (P : Program) (S : List TypeId) : Bool := S.all fun t =>
  match P.underlying t with
  | some .bool => true
  | some (.int _) => true
  | some .string => true
  | some (.slice e) => S.elem e && decide (0 < P.cellsOf e)
  | some (.struct fs) => fs.toList.all (fun f => S.elem f.type) && layOk P 0 fs.toList (P.cellsOf t)
  | _ => false

section
variable {H : Type} {enc : TypeId × Value → H} {P : Program} {W : World}

theorem mapM_cons_some {α β : Type} {f : α → Option β} {x : α} {l : List α} {ys : List β} (h : (x :: l).mapM f = some ys) : ∃ y r, ys = y :: r ∧ f x = some y ∧ l.mapM f = some r := by
  simp only [List.mapM_cons, Option.pure_def, Option.bind_eq_bind, Option.bind_eq_some_iff] at h
  obtain ⟨y, h1, r, h2, h3⟩ := h
  simp only [Option.some.injEq] at h3
  exact ⟨y, r, h3.symm, h1, h2⟩

theorem mapM_snoc_some {α β : Type} {f : α → Option β} {x : α} : ∀ {l : List α} {ys : List β}, (l ++ [x]).mapM f = some ys → ∃ r y, ys = r ++ [y] ∧ f x = some y ∧ l.mapM f = some r := by
  intro l
  induction l with
  | nil => intro ys h; obtain ⟨y, r, rfl, h1, h2⟩ := mapM_cons_some h; simp at h2; subst h2; exact ⟨[], y, rfl, h1, by simp⟩
  | cons z l ih =>
    intro ys h
    obtain ⟨y, r, rfl, h1, h2⟩ := mapM_cons_some h
    obtain ⟨r', y', rfl, h3, h4⟩ := ih h2
    exact ⟨y :: r', y', rfl, h3, by simp [List.mapM_cons, h1, h4]⟩

theorem cells?_some {a : Addr} {n : Nat} {cs : List Value} (h : W.cells? 0 a n = some cs) : cs.length = n ∧ ∀ j u, cs[j]? = some u → W.cell? (a.add j) = some u := by
  unfold World.cells? at h
  rw [if_pos (Nat.zero_le _)] at h
  induction n generalizing cs with
  | zero => simp at h; subst h; simp
  | succ n ih =>
    rw [List.range_succ] at h
    obtain ⟨r, y, rfl, h1, h2⟩ := mapM_snoc_some h
    obtain ⟨i1, i2⟩ := ih h2
    refine ⟨by simp [i1], fun j u hj => ?_⟩
    rw [List.getElem?_append] at hj
    split at hj
    · exact i2 j u hj
    · rename_i hlt
      have : j - r.length = 0 := by
        have := (List.getElem?_eq_some_iff.1 hj).1
        simp at this; omega
      have hjn : j = n := by omega
      rw [this] at hj
      simp at hj; subst hj; subst hjn; exact h1

theorem weightsAll_mem {e : TypeId} : ∀ {ds : List (DataW H)} {d : DataW H} {x : Nat}, d ∈ ds → x ∈ d.weights P e → x ∈ DataW.weightsAll P e ds := by
  intro ds
  induction ds with
  | nil => intro d x h; cases h
  | cons d0 ds ih =>
    intro d x h hx
    rw [DataW.weightsAll]
    rcases List.mem_cons.1 h with rfl | h
    · exact List.mem_append_left _ hx
    · exact List.mem_append_right _ (ih h hx)

abbrev PrW (W : World) : Addr → Prop := fun p => p.block < W.heap.size

theorem trod_typed {S : List TypeId} (hS : closedSet P S = true) : ∀ (fuel : Nat) (t : TypeId) (cs : List Value) (d : DataW H) (ps : List MemPlace), t ∈ S → DataW.trod enc P W 0 (fun _ => true) true fuel t cs = some (d, ps) →
    (∀ x ∈ d.weights P t, x ≤ reachBytes) → ∃ acs, Reps P W (PrW W) [] acs cs [] ∧ (∀ v ∈ cs, v.oneCell' = true) ∧ Typed P t acs := by
  intro fuel
  induction fuel with
  | zero => intro t cs d ps _ h; simp [DataW.trod] at h
  | succ fuel ih =>
    intro t cs d ps ht h hw
    have hc := List.all_eq_true.1 hS t ht
    unfold DataW.trod at h
    split at h
    case h_1 hu => cases h; exact ⟨[_], Reps.cons (L := []) .bool .nil, by simp [Value.oneCell'], .bool hu⟩
    case h_2 hu =>
      split at h
      · rename_i hwf
        obtain ⟨rfl, hwf⟩ := hwf
        cases h; exact ⟨[_], Reps.cons (L := []) .int .nil, by simp [Value.oneCell'], .int hu hwf⟩
      · cases h
    case h_4 hu =>
      split at h
      · rename_i s hs
        cases h
        have hl : s.data.toList.length ≤ reachBytes := hw _ (by rw [DataW.weights]; simp)
        exact ⟨[_], Reps.cons (L := []) (.str rfl (by unfold reachBytes at hl; unfold maxLen; omega)) .nil, by simp [Value.oneCell'], .str hu hl⟩
      · cases h
    case h_7 hu =>
      rename_i e
      simp only [hu, Bool.and_eq_true, decide_eq_true_eq] at hc
      exact ⟨[.sl .no 0 []], Reps.cons (L := []) .slNil .nil, by simp [Value.oneCell'], .slice hu hc.2 (by simp) (by simp) (fun i hi => by omega)⟩
    case h_8 hu =>
      rename_i e a len cap
      simp only [hu, Bool.and_eq_true, decide_eq_true_eq] at hc
      obtain ⟨he, hpos⟩ := hc
      have he : e ∈ S := by simpa using he
      split at h
      · rename_i hcond
        obtain ⟨_, hlc, hcm⟩ := hcond
        rw [Option.bind_eq_some_iff] at h
        obtain ⟨elems, h1, h⟩ := h
        rw [Option.map_eq_some_iff] at h
        obtain ⟨rest, h2, h3⟩ := h
        simp only [Prod.mk.injEq] at h3
        obtain ⟨rfl, rfl⟩ := h3
        rw [DataW.weights, hu] at hw
        simp only [List.mem_cons, List.mem_append] at hw
        have hlen : elems.length = len := by
          have : ∀ (l : List Nat) (f : Nat → Option (DataW H × List MemPlace)) ys, l.mapM f = some ys → ys.length = l.length := by
            intro l f
            induction l with
            | nil => intro ys h; simp at h; subst h; rfl
            | cons x l ih => intro ys h; obtain ⟨y, r, rfl, _, h2⟩ := mapM_cons_some h; simp [ih _ h2]
          simpa using this _ _ _ h1
        have key : ∀ n, n ≤ len → ∀ es, (List.range n).mapM (fun i => (W.cells? 0 (a.add (i * P.cellsOf e)) (P.cellsOf e)).bind (DataW.trod enc P W 0 (fun _ => true) true fuel e)) = some es → (∀ x ∈ es, x ∈ elems) →
            ∃ cells vals, Reps P W (PrW W) [] cells vals [] ∧ (∀ v ∈ vals, v.oneCell' = true) ∧ vals.length = n * P.cellsOf e ∧ (∀ j u, vals[j]? = some u → W.cell? (a.add j) = some u) ∧
              ∀ i, i < n → Typed P e ((cells.drop (i * P.cellsOf e)).take (P.cellsOf e)) := by
          intro n
          induction n with
          | zero => intro _ es _ _; exact ⟨[], [], .nil, by simp, by simp, by simp, fun i hi => by omega⟩
          | succ n ihn =>
            intro hn es hes hsub
            rw [List.range_succ] at hes
            obtain ⟨r, y, rfl, hy, hr⟩ := mapM_snoc_some hes
            obtain ⟨cells, vals, g1, g2, g3, g4, g5⟩ := ihn (by omega) r hr (fun x hx => hsub x (by simp [hx]))
            rw [Option.bind_eq_some_iff] at hy
            obtain ⟨ecs, hy1, hy2⟩ := hy
            obtain ⟨c1, c2⟩ := cells?_some hy1
            obtain ⟨acs, k1, k2, k3⟩ := ih e ecs y.1 y.2 he hy2 (fun x hx => hw x (.inr (.inl (weightsAll_mem (List.mem_map.2 ⟨y, hsub y (by simp), rfl⟩) hx))))
            have lc : cells.length = n * P.cellsOf e := by rw [g1.length, g3]
            have la : acs.length = P.cellsOf e := by rw [k1.length, c1]
            refine ⟨cells ++ acs, vals ++ ecs, by simpa using g1.append k1, fun v hv => ?_, by rw [List.length_append, g3, c1, Nat.succ_mul], fun j u hj => ?_, fun i hi => ?_⟩
            · rcases List.mem_append.1 hv with hv | hv
              · exact g2 v hv
              · exact k2 v hv
            · rw [List.getElem?_append] at hj
              split at hj
              · exact g4 j u hj
              · rename_i hlt
                have := c2 _ u hj
                rw [Addr.add_add, g3] at this
                rwa [show n * P.cellsOf e + (j - n * P.cellsOf e) = j by omega] at this
            · by_cases hin : i < n
              · have hle : i * P.cellsOf e + P.cellsOf e ≤ cells.length := by rw [lc, ← Nat.succ_mul]; exact Nat.mul_le_mul_right _ hin
                rw [List.drop_append_of_le_length (by omega), List.take_append_of_le_length (by rw [List.length_drop]; omega)]
                exact g5 i hin
              · have : i = n := by omega
                subst this
                rw [← lc, List.drop_left, List.take_of_length_le (by omega)]
                exact k3
        obtain ⟨cells, vals, g1, g2, g3, g4, g5⟩ := key len (Nat.le_refl _) elems h1 (fun x hx => hx)
        have hby : len * P.bytesOf e ≤ reachBytes := by
          refine Nat.le_trans (Nat.mul_le_mul_right _ ?_) (hw _ (.inl rfl))
          simp [hlen]
        refine ⟨[.sl .no len cells], Reps.cons (L := []) (.slNo g1 g2 (fun j u hj => ⟨?_, g4 j u hj⟩) hlc hcm) .nil, by simp [Value.oneCell'], .slice hu hpos (by rw [g1.length, g3]) hby g5⟩
        have := World.block_lt_of_cell? W _ (g4 j u hj)
        exact this
      · cases h
    case h_9 hu =>
      rename_i cs x0 cs1 fs
      simp only [hu, Bool.and_eq_true] at hc
      obtain ⟨hf, hlay⟩ := hc
      split at h
      · rename_i hlen
        rw [Option.map_eq_some_iff] at h
        obtain ⟨xs, h1, h2⟩ := h
        simp only [Prod.mk.injEq] at h2
        obtain ⟨rfl, rfl⟩ := h2
        rw [DataW.weights, hu] at hw
        have key : ∀ (l : List Field) (n : Nat) (xs : List (DataW H × List MemPlace)), l.mapM (fun f => DataW.trod enc P W 0 (fun _ => true) true fuel f.type ((cs.drop f.offset).take (P.cellsOf f.type))) = some xs →
            (∀ f ∈ l, f.type ∈ S) → layOk P n l cs.length = true → (∀ x ∈ DataW.weightsEach P (l.map (·.type)) (xs.map (·.1)), x ≤ reachBytes) → n ≤ cs.length →
            ∃ acs, Reps P W (PrW W) [] acs (cs.drop n) [] ∧ (∀ v ∈ cs.drop n, v.oneCell' = true) ∧ ∀ f ∈ l, n ≤ f.offset ∧ Typed P f.type ((acs.drop (f.offset - n)).take (P.cellsOf f.type)) := by
          intro l
          induction l with
          | nil =>
            intro n xs hx _ hl _ hn
            simp only [layOk, beq_iff_eq] at hl
            subst hl
            exact ⟨[], by simp; exact .nil, by simp, by simp⟩
          | cons f l ihl =>
            intro n xs hx hmem hl hwt hn
            obtain ⟨y, r, rfl, hy, hr⟩ := mapM_cons_some hx
            simp only [layOk, Bool.and_eq_true, beq_iff_eq] at hl
            obtain ⟨hoff, hl⟩ := hl
            simp only [List.map_cons, DataW.weightsEach, List.mem_append] at hwt
            have hn2 : n + P.cellsOf f.type ≤ cs.length := by
              have : ∀ (l : List Field) (n m : Nat), layOk P n l m = true → n ≤ m := by
                intro l
                induction l with
                | nil => intro n m h; simp [layOk] at h; omega
                | cons f l ih => intro n m h; simp only [layOk, Bool.and_eq_true] at h; have := ih _ _ h.2; omega
              exact this _ _ _ hl
            obtain ⟨a1, k1, k2, k3⟩ := ih f.type _ y.1 y.2 (hmem f List.mem_cons_self) hy (fun x hx => hwt x (.inl hx))
            obtain ⟨a2, j1, j2, j3⟩ := ihl _ r hr (fun g hg => hmem g (List.mem_cons_of_mem _ hg)) hl (fun x hx => hwt x (.inr hx)) hn2
            have la : a1.length = P.cellsOf f.type := by rw [k1.length, hoff]; simp; omega
            have hsplit : cs.drop n = (cs.drop n).take (P.cellsOf f.type) ++ cs.drop (n + P.cellsOf f.type) := by rw [← List.drop_drop, List.take_append_drop]
            rw [hoff] at k1 k2
            refine ⟨a1 ++ a2, by rw [hsplit]; simpa using k1.append j1, fun v hv => ?_, fun g hg => ?_⟩
            · rw [hsplit] at hv
              rcases List.mem_append.1 hv with hv | hv
              · exact k2 v hv
              · exact j2 v hv
            · rcases List.mem_cons.1 hg with rfl | hg
              · refine ⟨by omega, ?_⟩
                rw [hoff, Nat.sub_self, List.drop_zero, ← la, List.take_left]
                exact k3
              · obtain ⟨q1, q2⟩ := j3 g hg
                refine ⟨by omega, ?_⟩
                have e1 : (a1 ++ a2).drop (g.offset - n) = a2.drop (g.offset - (n + P.cellsOf f.type)) := by
                  rw [List.drop_append, List.drop_eq_nil_of_le (by omega), List.nil_append, la]
                  congr 1; omega
                rw [e1]; exact q2
        obtain ⟨acs, r1, r2, r3⟩ := key fs.toList 0 xs h1 (fun f hf' => by simpa using List.all_eq_true.1 hf f hf') (by rw [hlen]; exact hlay) hw (Nat.zero_le _)
        simp only [List.drop_zero, Nat.sub_zero] at r1 r2 r3
        exact ⟨acs, r1, r2, .struct hu (by rw [r1.length, hlen]) fun f hf' => (r3 f hf').2⟩
      · cases h
    all_goals first | (cases h; done) | (rename_i hu; simp [hu] at hc)
end
end Go.Proofs.YtkpdlbidadcdjaaDoor.Abs
