/- Code, and a function's body: the weakest precondition gives the contract. No condition. -/
import Derived.Test.YtkpdlbidadcdjaaDoorAbsZ
set_option linter.unusedVariables false
set_option linter.unusedSimpArgs false
namespace Go.Proofs.YtkpdlbidadcdjaaDoor.Abs
open Go
section
variable {C : Cx} {st : St} {a : Act} {w : World} {Pr : Addr → Prop} {b : List Nat} {xs : List AC} {vs : List Value} {m : Bool}

def CQ (C : Cx) (Q : Exit → St → Prop) (e : Exit) (a : Act) (w : World) : Prop := ∃ st Pr b, Q e st ∧ SR C st a w Pr b [] []

theorem wRun_sound {k : St → Prop} {Q : Exit → Act → World → Prop} {id : Nat} {ops : Array Oper} {d : Bool} (hk : ∀ st' a' w' Pr' b', k st' → SR C st' a' w' Pr' b' [] [] → Q .normal a' w')
    (hd : ops.toList.all (opDst C.N) = true) (h : wRun C.P C.fi ops d k st) (hS : SR C st a w Pr b [] []) : (Code.region id ops d).wp C.P Q a w := by
  cases d with
  | true =>
    obtain ⟨hm, kd, qs, qr, hck, h⟩ := h.1 rfl
    have conv : ∀ st a w Pr b, SR { C with fi := { C.fi with es := false, bw := [], qs := qs, qr := qr } } st a w Pr b [] [] → SR C st a w Pr b [] [] := by
      rintro st a w Pr b ⟨Le, Ll, Lx, Lk, h⟩
      exact ⟨Le, Ll, Lx, Lk, ⟨h.env, h.loc, h.reg, h.K, h.cnt, h.new, h.kE, h.kL, h.prlt, h.since, h.defers, h.size⟩⟩
    have hS2 : SR { C with fi := { C.fi with es := false, bw := [], qs := qs, qr := qr } } st a w Pr b [] [] := by
      obtain ⟨Le, Ll, Lx, Lk, h⟩ := hS
      exact ⟨Le, Ll, Lx, Lk, ⟨h.env, h.loc, h.reg, h.K, h.cnt, h.new, h.kE, h.kL, h.prlt, h.since, h.defers, h.size⟩⟩
    exact draw_sound (C := { C with fi := { C.fi with es := false, bw := [], qs := qs, qr := qr } }) hm ((drawOk_qr (qr := qr)).trans hck) hd (fun st' a' w' Pr' b' hk' hS' => hk st' a' w' Pr' b' hk' (conv _ _ _ _ _ hS')) h hS2
  | false =>
    exact wp_region_list (wOps_sound hk _ _ _ _ _ _ hd (h.2 rfl) hS)

/-- Slots under names. -/
theorem nameE_sound {P : Program} {bl : List (List Nat)} {tmps : Array Value} : ∀ {env : List (Nat × AC)} {L : List Nat} {k : List (Nat × AC) → Prop}, RepE P w Pr bl tmps env L → nameE env k →
    ∃ env', k env' ∧ RepE P w Pr bl tmps env' L ∧ env'.map (·.1) = env.map (·.1) := by
  intro env
  induction env with
  | nil => intro L k h hk; exact ⟨[], hk, h, rfl⟩
  | cons e env ih =>
    intro L k h hk
    obtain ⟨j, v⟩ := e
    obtain ⟨L1, L2, x, hx, hr, hE, rfl⟩ := h
    simp only [nameE] at hk
    split at hk
    · obtain ⟨env', h1, h2, h3⟩ := ih hE (hk x)
      exact ⟨_, h1, ⟨L1, L2, x, hx, .nam hr, h2, rfl⟩, by simp [h3]⟩
    · obtain ⟨env', h1, h2, h3⟩ := ih hE hk
      exact ⟨_, h1, ⟨L1, L2, x, hx, hr, h2, rfl⟩, by simp [h3]⟩

theorem flat_lend {c : AC} (h : Abs.flat c = true) : Abs.flat (lendS c) = true := by
  cases c with
  | sl o n cs => cases o <;> simp [lendS, Abs.flat]
  | nam x v => simp [Abs.flat] at h
  | agg cs => simp [Abs.flat] at h
  | tup cs => simp [Abs.flat] at h
  | opt g v => simp [Abs.flat] at h
  | bool b => simp [lendS, Abs.flat]
  | int k n => simp [lendS, Abs.flat]
  | str s => simp [lendS, Abs.flat]
  | undef => simp [lendS, Abs.flat]
  | _ => simp [Abs.flat] at h
theorem flat_lendL : ∀ {cs : List AC}, cs.all Abs.flat = true → (lendL cs).all Abs.flat = true := by
  intro cs; induction cs with
  | nil => intro _; simp [lendL]
  | cons c cs ih =>
    intro h
    simp only [List.all_cons, Bool.and_eq_true] at h
    simp only [lendL, List.all_cons, Bool.and_eq_true]
    exact ⟨flat_lend h.1, ih h.2⟩
theorem lendV_rep {P : Program} {bl bl' : List (List Nat)} {Pr1 : Addr → Prop} {K : List (List (List AC))} {LK L : List Nat} {v : AC} {x : Value} (hK : RepK P w Pr K bl LK) (hnd : ∀ x, bl.flatten.count x ≤ 1) (hp : ∀ a, Pr a → Pr1 a)
    (hb : ∀ g, g ∈ bl.flatten ∨ g ∈ LK → ∀ a : Addr, a.block = g → Pr1 a) (hr : Rep P w Pr bl v x L) (hin : ∀ g ∈ L, ∀ a : Addr, a.block = g → Pr1 a) : Rep P w Pr1 bl' (lendV K v) x [] := by
  have hu : Rep P w Pr bl (unN v) x L := by
    cases v with
    | nam y v => exact hr.nam_inv
    | _ => exact hr
  unfold lendV
  generalize unN v = u at hu
  split
  · split
    · rename_i cells hc
      split
      · rename_i hf
        cases hu with
        | ptr hg =>
          obtain ⟨cur, T, Li, Lr, h1, h2, h3, h4, h5, h6, _⟩ := hK.set hc hg hnd
          have h7 := h2.lend (Pr' := Pr1) hp (fun g hg => hb g (.inr (List.count_pos_iff.1 (by have := h6 g; have := List.count_pos_iff.2 hg; omega))))
          refine .ref (h7.flat (flat_lendL hf)) h3 fun j u hj => ⟨hb _ (.inl h5) _ (by rw [Addr.add_lit]), ?_⟩
          rw [Addr.add_lit, cell_of_row w _ _ _ _ _ h1]
          simpa using hj
      · exact .undef
    · exact .undef
  · split
    · rename_i hf
      cases hu with
      | agg h1 h2 => exact .agg ((h1.lend hp hin).flat (flat_lendL hf)) h2
    · exact .undef
  · split
    · rename_i hf
      exact (hu.lend hp hin).flat (flat_lend hf)
    · exact .undef
theorem nameX_sound {P : Program} {bl bl' : List (List Nat)} {tmps : Array Value} {Pr1 : Addr → Prop} {K : List (List (List AC))} {LK : List Nat} (hK : RepK P w Pr K bl LK) (hnd : ∀ x, bl.flatten.count x ≤ 1) (hp : ∀ a, Pr a → Pr1 a)
    (hb : ∀ g, g ∈ bl.flatten ∨ g ∈ LK → ∀ a : Addr, a.block = g → Pr1 a) : ∀ {env : List (Nat × AC)} {L : List Nat} {k : List (Nat × AC) → Prop}, RepE P w Pr bl tmps env L →
    (∀ g ∈ L, ∀ a : Addr, a.block = g → Pr1 a) → nameX K env k →
    ∃ env1, k env1 ∧ RepE P w Pr1 bl' tmps env1 [] ∧ env1.map (·.1) = env.map (·.1) ∧ ∀ j y v, look j env1 = some (.nam y v) → tmps[j]? = some y := by
  intro env
  induction env with
  | nil => intro L k h hin hk; exact ⟨[], hk, rfl, rfl, fun j y v h => by simp [look] at h⟩
  | cons e env ih =>
    intro L k h hin hk
    obtain ⟨j, v⟩ := e
    obtain ⟨L1, L2, x, hx, hr, hE, rfl⟩ := h
    simp only [nameX] at hk
    split at hk
    · rename_i hsc
      obtain ⟨env', h1, h2, h3, h4⟩ := ih hE (fun g hg => hin g (List.mem_append_right _ hg)) hk
      refine ⟨_, h1, ⟨[], [], x, hx, ?_, h2, rfl⟩, by simp [h3], fun i y u hi => ?_⟩
      · cases v <;> simp only [scalar, Bool.false_eq_true] at hsc
        · cases hr; exact .bool
        · cases hr; exact .int
        · cases hr with | str q1 q2 => exact .str q1 q2
      · simp only [look] at hi
        split at hi
        · cases hi; simp [scalar] at hsc
        · exact h4 _ _ _ hi
    · obtain ⟨env', h1, h2, h3, h4⟩ := ih hE (fun g hg => hin g (List.mem_append_right _ hg)) (hk x)
      refine ⟨_, h1, ⟨[], [], x, hx, .nam (lendV_rep hK hnd hp hb hr fun g hg => hin g (List.mem_append_left _ hg)), h2, rfl⟩, by simp [h3], fun i y u hi => ?_⟩
      simp only [look] at hi
      split at hi
      · rename_i e1; subst e1; cases hi; exact hx
      · exact h4 _ _ _ hi

mutual
theorem closed_toEx : ∀ {c : AC}, closed c = true → closed (Abs.toEx c) = true
  | .sl .no n cs, h => by simp [closed] at h
  | .sl .nil n cs, h => by simp [Abs.toEx, closed]
  | .sl (.of e) n cs, h => by simp only [closed] at h; simp only [Abs.toEx, closed]; exact closed_toExL h
  | .sl (.ex e) n cs, h => by simp only [closed] at h; simp only [Abs.toEx, closed]; exact closed_toExL h
  | .agg cs, h => by simp only [closed] at h; simp only [Abs.toEx, closed]; exact closed_toExL h
  | .tup cs, h => by simp only [closed] at h; simp only [Abs.toEx, closed]; exact closed_toExL h
  | .bool b, h => by simp [Abs.toEx, closed]
  | .int k n, h => by simp [Abs.toEx, closed]
  | .str s, h => by simp [Abs.toEx, closed]
  | .ptr u i o, h => by simp [closed] at h
  | .ref cs, h => by simp [closed] at h
  | .fn f cs, h => by simp [closed] at h
  | .opt g v, h => by simp [closed] at h
  | .nam x v, h => by simp [closed] at h
  | .ept t x o, h => by simp [closed] at h
  | .als t o x n, h => by simp [closed] at h
  | .undef, h => by simp [closed] at h
theorem closed_toExL : ∀ {cs : List AC}, closedL cs = true → closedL (Abs.toExL cs) = true
  | [], h => by simp [Abs.toExL, closedL]
  | c :: cs, h => by
    simp only [closedL, Bool.and_eq_true] at h
    simp only [Abs.toExL, closedL, Bool.and_eq_true]
    exact ⟨closed_toEx h.1, closed_toExL h.2⟩
end
mutual
theorem Rep.clbl {P : Program} : ∀ {bl bl' c v L}, Rep P w Pr bl c v L → closed c = true → Rep P w Pr bl' c v L
  | _, _, _, _, _, .bool, _ => .bool
  | _, _, _, _, _, .int, _ => .int
  | _, _, _, _, _, .str h h', _ => .str h h'
  | _, _, _, _, _, .slNo h1 h2 h3 h4 h5, _ => .slNo h1 h2 h3 h4 h5
  | _, _, _, _, _, .slNil, _ => .slNil
  | _, _, _, _, _, .slOf h1 h2 h3 h4 h5 h6 h7 h8 h9 h10, _ => .slOf h1 h2 h3 h4 h5 h6 h7 h8 h9 h10
  | _, _, _, _, _, .slEx h1 h2 h3 h4 h5 h6 h7 h8 h9, _ => .slEx h1 h2 h3 h4 h5 h6 h7 h8 h9
  | _, _, _, _, _, .nam h, hc => by simp [closed] at hc
  | _, _, _, _, _, .ept, hc => by simp [closed] at hc
  | _, _, _, _, _, .als h1 h2, hc => by simp [closed] at hc
  | _, _, _, _, _, .alsA, hc => by simp [closed] at hc
  | _, _, _, _, _, .agg h1 h2, hc => .agg (Reps.clbl h1 (by simpa only [closed] using hc)) h2
  | _, _, _, _, _, .tup h1, hc => .tup (Reps.clbl h1 (by simpa only [closed] using hc))
  | _, _, _, _, _, .ptr h, hc => by simp [closed] at hc
  | _, _, _, _, _, .ref h1 h2 h3, hc => by simp [closed] at hc
  | _, _, _, _, _, .fn h0 h, hc => by simp [closed] at hc
  | _, _, _, _, _, .optT h, hc => by simp [closed] at hc
  | _, _, _, _, _, .optF, hc => by simp [closed] at hc
  | _, _, _, _, _, .undef, hc => by simp [closed] at hc
theorem Reps.clbl {P : Program} : ∀ {bl bl' cs vs L}, Reps P w Pr bl cs vs L → closedL cs = true → Reps P w Pr bl' cs vs L
  | _, _, _, _, _, .nil, _ => .nil
  | _, _, _, _, _, .cons h1 h2, hc => by
    simp only [closedL, Bool.and_eq_true] at hc
    exact .cons (Rep.clbl h1 hc.1) (Reps.clbl h2 hc.2)
end

theorem backE_sound {P : Program} {bl bl' : List (List Nat)} {tmps tmps' : Array Value} {w' : World} {Pr' : Addr → Prop} {env0 env1 : List (Nat × AC)} {Lall : List Nat}
    (hname : ∀ j y v, look j env1 = some (.nam y v) → tmps[j]? = some y) (hkp : ∀ c z M, Rep P w Pr bl c z M → (∀ g ∈ M, g ∈ Lall) → Rep P w' Pr bl c z M) :
    ∀ {r : List (Nat × AC)} {L' L0 : List Nat} {env0' : List (Nat × AC)} {k : List (Nat × AC) → Prop}, (r.map (·.1)).Nodup → RepE P w' Pr' bl' tmps' r L' → (∀ g ∈ L', ∀ a : Addr, Pr a → a.block ≠ g) →
      (∀ j ∈ r.map (·.1), look j env0' = look j env0) → RepE P w Pr bl tmps env0' L0 → (∀ g ∈ L0, g ∈ Lall) → backE env0 env1 r k →
      ∃ e L2, k e ∧ RepE P w' Pr bl tmps' e L2 ∧ e.map (·.1) = r.map (·.1) ∧ ∀ x, L2.count x ≤ L0.count x + L'.count x := by
  intro r
  induction r with
  | nil => intro L' L0 env0' k _ h _ _ _ _ hk; exact ⟨[], [], hk, rfl, rfl, fun x => by simp⟩
  | cons e r ih =>
    intro L' L0 env0' k hn h hfr hl h0 hin hk
    obtain ⟨j, v⟩ := e
    obtain ⟨L1, L2, x, hx, hr, hE, rfl⟩ := h
    simp only [List.map_cons, List.nodup_cons] at hn
    simp only [backE] at hk
    split at hk
    · rename_i y v'
      split at hk
      · rename_i y' v1 u hj1 hj0
        obtain ⟨rfl, hk⟩ := hk
        have hjl : look j env0' = some u := by rw [hl j (by simp)]; exact hj0
        obtain ⟨x0, Lv, L3, env', hx0, hr0, hE0, hlk, hc⟩ := h0.remove hjl
        have hxy := hr.nam_val
        have hx0y : x0 = y' := by have := hname _ _ _ hj1; rw [this] at hx0; cases hx0; rfl
        obtain ⟨e, L4, g1, g2, g3, g4⟩ := ih (env0' := env') hn.2 hE (fun g hg => hfr g (List.mem_append_right _ hg)) (fun i hi => by
          have hne : i ≠ j := fun e => hn.1 (by rw [← e]; exact hi)
          rw [hlk i hne]; exact hl i (by simp only [List.map_cons, List.mem_cons]; exact .inr hi)) hE0 (fun g hg => hin g (List.count_pos_iff.1 (by have := hc g; have := List.count_pos_iff.2 hg; omega))) hk
        refine ⟨_, Lv ++ L4, g1, ⟨Lv, L4, x, hx, ?_, g2, rfl⟩, by simp [g3], fun z => by have := g4 z; have := hc z; simp only [List.count_append]; omega⟩
        rw [← hxy, ← hx0y]
        exact hkp _ _ _ hr0 fun g hg => hin g (List.count_pos_iff.1 (by have := hc g; have := List.count_pos_iff.2 hg; omega))
      · exact hk.elim
    · obtain ⟨hcl, hk⟩ := hk
      obtain ⟨e, L4, g1, g2, g3, g4⟩ := ih (env0' := env0') hn.2 hE (fun g hg => hfr g (List.mem_append_right _ hg)) (fun i hi => hl i (by simp only [List.map_cons, List.mem_cons]; exact .inr hi)) h0 hin hk
      exact ⟨_, L1 ++ L4, g1, ⟨L1, L4, x, hx, (hr.toEx hcl fun g hg => hfr g (List.mem_append_left _ hg)).clbl (closed_toEx hcl), g2, rfl⟩, by simp [g3], fun z => by have := g4 z; simp only [List.count_append]; omega⟩

theorem keepS_rep {P : Program} {Pr' : Addr → Prop} {bl bl' : List (List Nat)} {tmps : Array Value} : ∀ {l : List (Nat × AC)} {L : List Nat}, RepE P w Pr' bl' tmps l L → RepE P w Pr bl tmps (keepS l) [] := by
  intro l
  induction l with
  | nil => intro L _; rfl
  | cons e r ih =>
    intro L h
    obtain ⟨j, v⟩ := e
    obtain ⟨L1, L2, x, hx, hr, hE, rfl⟩ := h
    unfold keepS
    split
    · rename_i hs
      refine ⟨[], [], x, hx, ?_, ih hE, rfl⟩
      cases v <;> simp [scalar] at hs
      · cases hr; exact .bool
      · cases hr; exact .int
      · cases hr with | str q1 q2 => exact .str q1 q2
    · exact ih hE
theorem keepS_sub : ∀ {l : List (Nat × AC)}, ((keepS l).map (·.1)).Sublist (l.map (·.1)) := by
  intro l
  induction l with
  | nil => exact .slnil
  | cons e r ih =>
    obtain ⟨j, v⟩ := e
    unfold keepS
    split
    · simpa using ih
    · simpa using ih.cons j
theorem RepK.empty {P : Program} : ∀ {K : List (List (List AC))} {bl : List (List Nat)} {L : List Nat}, RepK P w Pr (noK K) bl L → bl = K.map (fun _ => []) ∧ L = [] := by
  intro K
  induction K with
  | nil => intro bl L h; obtain ⟨rfl, rfl⟩ := h; exact ⟨rfl, rfl⟩
  | cons f K ih =>
    intro bl L h
    obtain ⟨b, bl', L1, L2, rfl, ⟨rfl, rfl⟩, h2, rfl⟩ := h
    obtain ⟨rfl, rfl⟩ := ih h2
    exact ⟨rfl, rfl⟩
theorem RepK.none {P : Program} : ∀ {K : List (List (List AC))}, RepK P w Pr (noK K) (K.map fun _ => []) [] := by
  intro K
  induction K with
  | nil => exact ⟨rfl, rfl⟩
  | cons f K ih => exact ⟨[], _, [], [], rfl, ⟨rfl, rfl⟩, ih, rfl⟩
theorem RepK.lens {P : Program} : ∀ {K : List (List (List AC))} {bl : List (List Nat)} {L : List Nat}, RepK P w Pr K bl L → (K.map fun _ => ([] : List Nat)) = bl.map fun _ => [] := by
  intro K
  induction K with
  | nil => intro bl L h; obtain ⟨rfl, rfl⟩ := h; rfl
  | cons f K ih =>
    intro bl L h
    obtain ⟨b, bl', L1, L2, rfl, _, h2, rfl⟩ := h
    simp [ih h2]
theorem flat_nil {bl : List (List Nat)} : (bl.map fun _ => ([] : List Nat)).flatten = [] := by
  induction bl with
  | nil => rfl
  | cons b bl ih => simp

theorem thawE_rep {P : Program} {bl : List (List Nat)} {tmps : Array Value} {Pr' : Addr → Prop} : ∀ {l : List (Nat × AC)} {L : List Nat}, RepE P w Pr bl tmps l L → RepE P w Pr' bl tmps (thawE l) [] := by
  intro l
  induction l with
  | nil => intro L _; exact rfl
  | cons e r ih =>
    obtain ⟨j, v⟩ := e
    intro L h
    obtain ⟨L1, L2, x, hx, hr, hE, rfl⟩ := h
    have ih := ih hE
    unfold thawE
    split
    · exact ⟨[], [], x, hx, by cases hr; exact .bool, ih, rfl⟩
    · exact ⟨[], [], x, hx, by cases hr; exact .int, ih, rfl⟩
    · exact ⟨[], [], x, hx, by cases hr with | str q1 q2 => exact .str q1 q2, ih, rfl⟩
    · exact ⟨[], [], x, hx, by cases hr with | ptr q1 => exact .ptr q1, ih, rfl⟩
    · exact ih
theorem thawE_sub : ∀ {l : List (Nat × AC)}, ((thawE l).map (·.1)).Sublist (l.map (·.1)) := by
  intro l
  induction l with
  | nil => exact .slnil
  | cons e r ih =>
    obtain ⟨j, v⟩ := e
    unfold thawE
    split
    · simpa using ih
    · simpa using ih
    · simpa using ih
    · simpa using ih
    · simpa using ih.cons j
theorem scal_reps {P : Program} {bl : List (List Nat)} {Pr' : Addr → Prop} : ∀ {cs : List AC} {vs : List Value} {L : List Nat}, cs.all scalar = true → Reps P w Pr bl cs vs L → Reps P w Pr' bl cs vs [] := by
  intro cs
  induction cs with
  | nil => intro vs L _ h; cases h; exact .nil
  | cons c cs ih =>
    intro vs L hs h
    simp only [List.all_cons, Bool.and_eq_true] at hs
    cases h with
    | cons h1 h2 =>
      have h3 := ih hs.2 h2
      have h0 := hs.1
      refine Reps.cons (L := []) (M := []) ?_ h3
      cases c <;> simp [scalar] at h0
      · cases h1; exact .bool
      · cases h1; exact .int
      · cases h1 with | str q1 q2 => exact .str q1 q2
theorem thawC_rep {P : Program} {bl : List (List Nat)} {Pr' : Addr → Prop} {c : AC} {v : Value} {L : List Nat} (h : Rep P w Pr bl c v L) (hL : ∀ g ∈ L, ∀ a, Pr' a → a.block ≠ g) : ∃ L', Rep P w Pr' bl (thawC c) v L' ∧ ∀ x, L'.count x ≤ L.count x := by
  unfold thawC
  split
  · split
    · rename_i hs
      cases h with
      | slNil => exact ⟨[], .slNil, fun x => by simp⟩
      | slOf hcs h1 hh hcap hmax hpos hsz htk _ _ =>
        rename_i g L0 cur
        exact ⟨[_], .slEx (L := []) (scal_reps hs hcs) h1 hh hcap hmax hpos hsz htk (hL _ List.mem_cons_self), fun x => by simp only [List.count_cons, List.count_nil]; omega⟩
    · exact ⟨[], .undef, fun x => by simp⟩
  · cases h; exact ⟨[], .bool, fun x => by simp⟩
  · cases h; exact ⟨[], .int, fun x => by simp⟩
  · cases h with | str q1 q2 => exact ⟨[], .str q1 q2, fun x => by simp⟩
  · exact ⟨[], .undef, fun x => by simp⟩
theorem thawC_reps {P : Program} {bl : List (List Nat)} {Pr' : Addr → Prop} : ∀ {cs : List AC} {vs : List Value} {L : List Nat}, Reps P w Pr bl cs vs L → (∀ g ∈ L, ∀ a, Pr' a → a.block ≠ g) → ∃ L', Reps P w Pr' bl (cs.map thawC) vs L' ∧ ∀ x, L'.count x ≤ L.count x := by
  intro cs
  induction cs with
  | nil => intro vs L h _; cases h; exact ⟨[], .nil, fun x => by simp⟩
  | cons c cs ih =>
    intro vs L h hL
    cases h with
    | cons h1 h2 =>
      obtain ⟨L1, r1, c1⟩ := thawC_rep h1 (fun g hg => hL g (List.mem_append_left _ hg))
      obtain ⟨L2, r2, c2⟩ := ih h2 (fun g hg => hL g (List.mem_append_right _ hg))
      exact ⟨L1 ++ L2, .cons r1 r2, fun x => by have := c1 x; have := c2 x; simp only [List.count_append]; omega⟩
theorem thawF_rep {P : Program} {bl : List (List Nat)} {Pr' : Addr → Prop} (hp : ∀ a, Pr' a → Pr a) : ∀ {f : List (List AC)} {gs L : List Nat}, RepF P w Pr bl f gs L → (∀ g ∈ L, ∀ a, Pr' a → a.block ≠ g) →
    ∃ L', RepF P w Pr' bl (f.map fun c => c.map thawC) gs L' ∧ ∀ x, L'.count x ≤ L.count x := by
  intro f
  induction f with
  | nil => intro gs L h _; obtain ⟨rfl, rfl⟩ := h; exact ⟨[], ⟨rfl, rfl⟩, fun x => by simp⟩
  | cons c f ih =>
    intro gs L h hL
    obtain ⟨g, gs', cur, T, L1, L2, rfl, hh, hc, h1, hpr, hF, rfl⟩ := h
    obtain ⟨M1, r1, c1⟩ := thawC_reps hc (fun g hg => hL g (List.mem_append_left _ hg))
    obtain ⟨M2, r2, c2⟩ := ih hF (fun g hg => hL g (List.mem_append_right _ hg))
    exact ⟨M1 ++ M2, ⟨g, gs', cur, T, M1, M2, rfl, hh, r1, h1, fun a ha => hpr a (hp a ha), r2, rfl⟩, fun x => by have := c1 x; have := c2 x; simp only [List.count_append]; omega⟩
/-- Nothing is lent from outside: the context of a function whose promises may be let go. -/
def FreeC (C : Cx) : Prop := C.F = [] ∧ C.bl0 = [] ∧ ∀ a, C.Pr0 a → a.block < C.w0.heap.size
theorem thaw_sound (hf : FreeC C) (hlen : st.K.length = 1) (hS : SR C st a w Pr b [] []) : SR C (thaw st) a w C.Pr0 b [] [] := by
  obtain ⟨hF, hb, hlt⟩ := hf
  obtain ⟨Le, Ll, Lx, Lk, h0⟩ := hS.dropLoc
  have hs := h0.since
  obtain ⟨f, hK⟩ : ∃ f, st.K = [f] := by
    match hk : st.K, hlen with
    | [f], _ => exact ⟨f, rfl⟩
  have h9 := h0.K
  rw [hK] at h9
  obtain ⟨b1, bl1, L1, L2, e1, hRF, ⟨_, e3⟩, e2⟩ := h9
  rw [e3, List.append_nil] at e2
  subst e2
  obtain ⟨rfl, rfl⟩ := List.cons.inj e1
  obtain ⟨L', hRF', hc⟩ := thawF_rep (Pr' := C.Pr0) (fun a ha => (hs.prot a ha).1) hRF (fun g hg a ha e => by
    have := List.count_pos_iff.2 hg
    rcases h0.new g (by omega) with h | h
    · rw [hF] at h; cases h
    · have := hlt a ha; omega)
  refine ⟨[], [], [], L', ⟨thawE_rep h0.env, rfl, .nil, ?_, fun x => ?_, fun x hx => ?_, ⟨h0.kE.1.sublist thawE_sub, fun j hj => h0.kE.2 j (thawE_sub.subset hj)⟩, ⟨by simp [thaw], by simp [thaw]⟩, fun p hp => h0.prlt p (hs.prot p hp).1,
    ⟨hs.os, hs.tape, hs.output, hs.size, hs.block, fun p hp => ⟨hp, (hs.prot p hp).2⟩, fun p hp => .inl hp⟩, h0.defers, h0.size⟩⟩
  · show RepK C.P w C.Pr0 (st.K.map fun f => f.map fun c => c.map thawC) (b :: C.bl0) L'
    rw [hK]
    exact ⟨_, _, L', [], rfl, hRF', ⟨hb, rfl⟩, by simp⟩
  · have := h0.cnt x; have := hc x
    simp only [List.count_nil] at *; omega
  · refine h0.new x ?_
    have := hc x
    simp only [List.count_nil] at *; omega

theorem wRegion_sound (hfree : C.fi.th = [] ∨ FreeC C) {k : St → Prop} {Q : Exit → Act → World → Prop} {id : Nat} {ops : Array Oper} {d : Bool} (hk : ∀ st' a' w' Pr' b', k st' → SR C st' a' w' Pr' b' [] [] → Q .normal a' w')
    (hd : ops.toList.all (opDst C.N) = true) (h : wRegion C.P C.fi id ops d k st) (hS : SR C st a w Pr b [] []) : (Code.region id ops d).wp C.P Q a w := by
  unfold wRegion at h
  split at h
  · rename_i hth
    rcases hfree with e | hfree
    · rw [e] at hth; cases hth
    · exact wRun_sound hk hd h.2 (thaw_sound hfree h.1 hS)
  split at h
  · obtain ⟨Le, Ll, Lx, Lk, h0⟩ := hS.dropLoc
    have hcnt := h0.cnt
    have hnd : ∀ x, (b :: C.bl0).flatten.count x ≤ 1 := fun x => by have := hcnt x; omega
    have hlen := h0.K.lens
    have hz : ∀ x, ((([] : List Nat) :: C.bl0.map fun _ => []).flatten).count x = 0 := fun x => by
      have e := flat_nil (bl := b :: C.bl0)
      simp only [List.map_cons] at e
      rw [e]; rfl
    have hp1 : ∀ p, Pr p → Pr p ∨ p.block ∈ Le ∨ p.block ∈ (b :: C.bl0).flatten ∨ p.block ∈ Lk := fun p hp => .inl hp
    obtain ⟨env1, h, hE1, hkeys, hname⟩ := nameX_sound (Pr1 := fun p => Pr p ∨ p.block ∈ Le ∨ p.block ∈ (b :: C.bl0).flatten ∨ p.block ∈ Lk) (bl' := [] :: C.bl0.map fun _ => []) h0.K hnd hp1
      (fun g hg a ha => hg.elim (fun h => .inr (.inr (.inl (by rw [ha]; exact h)))) (fun h => .inr (.inr (.inr (by rw [ha]; exact h))))) h0.env (fun g hg q hq => .inr (.inl (by rw [hq]; exact hg))) h
    have ht1 : Tab w (fun p => Pr p ∨ p.block ∈ Le ∨ p.block ∈ (b :: C.bl0).flatten ∨ p.block ∈ Lk) := (C.tab.kept h0.since.prot).kept fun a h => ⟨.inl h, rfl⟩
    have hS1 : SR { C with tab := ht1, fi := { C.fi with es := false, bw := [] }, w0 := w, Pr0 := fun p => Pr p ∨ p.block ∈ Le ∨ p.block ∈ (b :: C.bl0).flatten ∨ p.block ∈ Lk, F := [], bl0 := C.bl0.map fun _ => [] } { env := env1, loc := [], K := noK st.K } a w
        (fun p => Pr p ∨ p.block ∈ Le ∨ p.block ∈ (b :: C.bl0).flatten ∨ p.block ∈ Lk) [] [] [] := by
      refine ⟨[], [], [], [], ⟨hE1, rfl, .nil, ?_, fun x => ?_, fun x hx => ?_, ⟨by rw [hkeys]; exact h0.kE.1, fun j hj => h0.kE.2 j (by rw [← hkeys]; exact hj)⟩, ⟨by simp, by simp⟩, fun p hp => ?_,
        ⟨rfl, rfl, rfl, Nat.le_refl _, fun _ _ _ => rfl, fun p hp => ⟨hp, rfl⟩, fun p hp => .inl hp⟩, h0.defers, h0.size⟩⟩
      · have := RepK.none (P := C.P) (w := w) (Pr := fun p => Pr p ∨ p.block ∈ Le ∨ p.block ∈ (b :: C.bl0).flatten ∨ p.block ∈ Lk) (K := st.K)
        rw [hlen] at this
        exact this
      · show _ + _ + _ + _ + (([] : List Nat) :: C.bl0.map fun _ => []).flatten.count x ≤ 1
        rw [hz]; simp
      · have hx' : 0 < ([] : List Nat).count x + ([] : List Nat).count x + ([] : List Nat).count x + ([] : List Nat).count x + (([] : List Nat) :: C.bl0.map fun _ => []).flatten.count x := hx
        rw [hz] at hx'; simp at hx'
      · rcases hp with hp | hp | hp | hp
        · exact h0.prlt p hp
        · exact h0.env.own_lt _ hp
        · exact h0.K.box_lt _ hp
        · exact h0.K.own_lt _ hp
    refine wRun_sound (C := { C with tab := ht1, fi := { C.fi with es := false, bw := [] }, w0 := w, Pr0 := fun p => Pr p ∨ p.block ∈ Le ∨ p.block ∈ (b :: C.bl0).flatten ∨ p.block ∈ Lk, F := [], bl0 := C.bl0.map fun _ => [] }) (fun s a' w' Pr' b' hks hS' => ?_) hd h hS1
    obtain ⟨hK', hks⟩ := hks
    obtain ⟨Le', Ll', Lx', Lk', h1⟩ := hS'
    have hs := h1.since
    have hs0 := h0.since
    have hnewLe : ∀ x ∈ Le', w.heap.size ≤ x := by
      intro x hx
      have := List.count_pos_iff.2 hx
      rcases h1.new x (by omega) with h | h
      · cases h
      · exact h
    have hprp : ∀ p, Pr p → w'.cell? p = w.cell? p := fun p hp => (hs.prot p (.inl hp)).2
    have hkept : ∀ g, g < w.heap.size → Kept w Pr w' Pr g := fun g hg => ⟨hs.block g hg (by simp), fun p hp _ => hp⟩
    have hE1' : RepE C.P w' Pr' (b' :: C.bl0.map fun _ => []) a'.tmps s.env Le' := h1.env
    have hb' : b' = [] ∧ Lk' = [] := by
      have h9 := h1.K
      rw [hK'] at h9
      obtain ⟨e1, e2⟩ := RepK.empty h9
      rw [hlen] at e1
      exact ⟨(List.cons.inj e1).1, e2⟩
    obtain ⟨rfl, rfl⟩ := hb'
    obtain ⟨e, L2, hke, hE2, hkeys2, hc2⟩ := backE_sound (w := w) (w' := w') (Pr := Pr) (Pr' := Pr') (bl := b :: C.bl0) (bl' := [] :: C.bl0.map fun _ => []) (tmps := a.tmps) (tmps' := a'.tmps) (Lall := Le) hname
      (fun c z M hM hin => hM.kept (fun p hp => ⟨hp, hprp p hp⟩) fun g hg => hkept g (h0.env.own_lt g (hin g hg)))
      h1.kE.1 hE1' (fun g hg p hp e => by have := h0.prlt p hp; have := hnewLe g hg; omega) (fun j _ => rfl) h0.env (fun g hg => hg) hks
    refine hk _ a' w' Pr b hke ⟨L2, [], [], Lk, ⟨hE2, keepS_rep (bl' := [] :: C.bl0.map fun _ => []) h1.loc, .nil, ?_, fun x => ?_, fun x hx => ?_, ⟨by rw [hkeys2]; exact h1.kE.1, fun j hj => h1.kE.2 j (by rw [← hkeys2]; exact hj)⟩, ⟨h1.kL.1.sublist keepS_sub, fun j hj => h1.kL.2 j (keepS_sub.subset hj)⟩, fun p hp => ?_,
      ⟨hs.os.trans hs0.os, hs.tape.trans hs0.tape, hs.output.trans hs0.output, Nat.le_trans hs0.size hs.size, fun x hx hxF => ?_, fun p hp => ?_, hs0.newPr⟩, h1.defers, h1.size⟩⟩
    · exact h0.K.kept (fun p hp => ⟨hp, hprp p hp⟩) (fun g hg => hkept g (h0.K.own_lt g hg)) (fun g hg => hkept g (h0.K.box_lt g hg))
    · have := hc2 x; have h3 := h0.cnt x; have h4 := h1.cnt x
      simp only [List.count_nil] at *
      by_cases hx : x < w.heap.size
      · have : Le'.count x = 0 := List.count_eq_zero.2 fun hm => by have := hnewLe x hm; omega
        omega
      · have : Le.count x = 0 := List.count_eq_zero.2 fun hm => hx (h0.env.own_lt x hm)
        have : Lk.count x = 0 := List.count_eq_zero.2 fun hm => hx (h0.K.own_lt x hm)
        have : (b :: C.bl0).flatten.count x = 0 := List.count_eq_zero.2 fun hm => hx (h0.K.box_lt x hm)
        omega
    · have := hc2 x
      simp only [List.count_nil] at *
      by_cases hx0 : 0 < Le.count x + Lk.count x + (b :: C.bl0).flatten.count x
      · exact h0.new x (by omega)
      · right
        have := hnewLe x (List.count_pos_iff.1 (by omega))
        have := hs0.size; omega
    · have := h0.prlt p hp; have := hs.size
      show p.block < w'.heap.size
      have h9 : w.heap.size ≤ w'.heap.size := hs.size
      omega
    · exact (hs.block x (by have := hs0.size; show x < w.heap.size; omega) (by simp)).trans (hs0.block x hx hxF)
    · have h1' := hs0.prot p hp
      exact ⟨h1'.1, (hprp p h1'.1).trans h1'.2⟩
  · split at h
    · obtain ⟨Le, Ll, Lx, Lk, h0⟩ := hS.dropLoc
      obtain ⟨env', h, hE, hkeys⟩ := nameE_sound h0.env h
      exact wRun_sound hk hd h ⟨Le, Ll, Lx, Lk, { h0 with env := hE, kE := ⟨by rw [hkeys]; exact h0.kE.1, fun j hj => h0.kE.2 j (by rw [← hkeys]; exact hj)⟩ }⟩
    · exact wRun_sound hk hd h hS.dropLoc

theorem wC_sound (hfree : C.fi.th = [] ∨ FreeC C) (c : Code) : ∀ (Q : Exit → St → Prop) (st : St) (a : Act) (w : World) (Pr : Addr → Prop) (b : List Nat), dstOk C.N c = true → wC C.P C.fi c Q st → SR C st a w Pr b [] [] → c.wp C.P (CQ C Q) a w := by
  induction c with
  | skip => intro Q st a w Pr b _ h hS; exact wp_skip ⟨st, Pr, b, h, hS⟩
  | region id ops d =>
    intro Q st a w Pr b hd h hS
    exact wRegion_sound hfree (k := Q .normal) (fun st' a' w' Pr' b' hk hS => ⟨st', Pr', b', hk, hS⟩) hd h hS
  | seq x y ihx ihy =>
    intro Q st a w Pr b hd h hS
    simp only [dstOk, Bool.and_eq_true] at hd
    refine wp_seq (wp_mono (ihx _ _ _ _ _ _ hd.1 h hS) ?_)
    rintro e a' w' ⟨st', Pr', b', hq, hS'⟩
    cases e with
    | normal => exact ihy _ _ _ _ _ _ hd.2 hq hS'
    | exit id => exact ⟨st', Pr', b', hq, hS'⟩
    | goto l => exact ⟨st', Pr', b', hq, hS'⟩
    | ret => exact ⟨st', Pr', b', hq, hS'⟩
    | panic ch => exact ⟨st', Pr', b', hq, hS'⟩
    | outgrown => exact ⟨st', Pr', b', hq, hS'⟩
  | cond c x y ihx ihy =>
    intro Q st a w Pr b hd h hS
    simp only [dstOk, Bool.and_eq_true] at hd
    unfold wC at h
    split at h
    · rename_i v hv
      have hr := hS.ev c
      rw [hv] at hr
      simp only [share] at hr
      generalize hz : a.eval c = z at hr
      cases hr
      cases v with
      | true => exact wp_cond_true hz (ihx _ _ _ _ _ _ hd.1 (h.1 rfl) hS)
      | false => exact wp_cond_false hz (ihy _ _ _ _ _ _ hd.2 (h.2 rfl) hS)
    · exact h.elim
  | block id c ih =>
    intro Q st a w Pr b hd h hS
    refine wp_block (wp_mono (ih _ _ _ _ _ _ hd h hS) ?_)
    rintro e a' w' ⟨st', Pr', b', hq, hS'⟩
    cases e with
    | normal => exact ⟨st', Pr', b', hq, hS'⟩
    | exit id' =>
      simp only [Exit.inBlock]
      simp only [blockK] at hq
      split
      · rename_i e; rw [if_pos e] at hq; exact ⟨st', Pr', b', hq, hS'⟩
      · rename_i e; rw [if_neg e] at hq; exact ⟨st', Pr', b', hq, hS'⟩
    | goto l => exact ⟨st', Pr', b', hq, hS'⟩
    | ret => exact ⟨st', Pr', b', hq, hS'⟩
    | panic ch => exact ⟨st', Pr', b', hq, hS'⟩
    | outgrown => exact ⟨st', Pr', b', hq, hS'⟩
  | loop c ih =>
    intro Q st a w Pr b hd h hS
    obtain ⟨I, n, s0, hle, hI, hround⟩ := h
    refine wp_loop_ghost (fun n a w => ∃ st Pr b, I n st ∧ SR C st a w Pr b [] []) n ⟨s0, Pr, b, hI, hS.le hle⟩ ?_
    rintro n a w ⟨s, Pr, b, hI, hS⟩
    refine wp_mono (ih _ _ _ _ _ _ hd (hround n s hI) hS) ?_
    rintro e a' w' ⟨st', Pr', b', hq, hS'⟩
    cases e with
    | normal =>
      obtain ⟨n', hlt, s2, hle2, hI2⟩ := hq
      exact ⟨n', hlt, s2, Pr', _, hI2, (hS'.kill _ rfl).le hle2⟩
    | exit id => exact ⟨st', Pr', b', hq, hS'⟩
    | goto l => exact ⟨st', Pr', b', hq, hS'⟩
    | ret => exact ⟨st', Pr', b', hq, hS'⟩
    | panic ch => exact ⟨st', Pr', b', hq, hS'⟩
    | outgrown => exact ⟨st', Pr', b', hq, hS'⟩
  | exit id => intro Q st a w Pr b _ h hS; exact wp_exit ⟨st, Pr, b, h, hS⟩
  | ret => intro Q st a w Pr b _ h hS; exact wp_ret ⟨st, Pr, b, h, hS⟩
  | rangeFunc f ps x y _ _ => intro Q st a w Pr b _ h hS; exact h.elim
  | scope c _ => intro Q st a w Pr b _ h hS; exact h.elim
  | label l => intro Q st a w Pr b _ h hS; exact h.elim
  | goto l => intro Q st a w Pr b _ h hS; exact h.elim
  | refuse s => intro Q st a w Pr b _ h hS; exact h.elim

/-- What the model does for one result. -/
def resRun (tmps : Array Value) : ResultVar → Sem Value
  | .tmp t => pure (tmps.getD t undef)
  | .cell a t => do loadVar t (← asAddr (tmps.getD a undef))

theorem setBox_zero (f : List (List AC)) (K : List (List (List AC))) (i : Nat) (c : List AC) : setBox (f :: K) 0 i c = (f.set i c) :: K := by simp [setBox]

theorem SR.res (h : SR C st a w Pr b xs vs) {x : ResultVar} {v : AC} {st' : St} (hx : resStep C.P st x = some (v, st')) :
    ∃ val, (resRun a.tmps x).run C.P w = .ok val w ∧ SR C st' a w Pr b (v :: xs) (val :: vs) ∧ st'.K.tail = st.K.tail := by
  cases x with
  | tmp t =>
    simp only [resStep, Option.some.injEq, Prod.mk.injEq] at hx
    obtain ⟨rfl, rfl⟩ := hx
    refine ⟨_, rfl, h.take t, ?_⟩
    unfold St.weak; split
    · rfl
    · split <;> rfl
  | cell p t =>
    simp only [resStep] at hx
    split at hx
    · cases hx
    · rename_i i td hp hbad
      split at hx
      · rename_i cells hbox
        split at hx
        · rename_i hlen
          obtain ⟨hlen, hpos⟩ := hlen
          simp only [Option.some.injEq, Prod.mk.injEq] at hx
          obtain ⟨rfl, rfl⟩ := hx
          have hgood : goodTy C.P t := by
            unfold goodTy
            split
            · rename_i e; exact absurd e (by simpa using hbad)
            · trivial
          obtain ⟨Le, Ll, Lx, Lk, h0⟩ := h
          obtain ⟨L, hr, hLc⟩ := h0.get p
          rw [hp] at hr
          generalize hz : a.tmps.getD p undef = z at hr
          cases hr with
          | ptr hgb =>
            rename_i g
            obtain ⟨cur, T, Li, Lr, hh, hcs, h1, hpr, hmem, hcnt, hset⟩ := h0.K.set hbox hgb h0.box_cnt
            simp only [List.drop_zero] at hcs hset
            have hl2 := hcs.length
            have hcell : ∀ j v, cur.toList[j]? = some v → w.cell? ((⟨g, 0, none⟩ : Addr).add j) = some v := by
              intro j v hj
              rw [Addr.add_lit, Nat.zero_add, cell_of_row w _ _ _ _ _ hh]
              simpa using hj
            obtain ⟨val, hrun, hrep⟩ := run_loadVar_of (w := w) hgood hpos (by rw [← hl2]; exact hlen) hcell
            obtain ⟨M, hrepv, hM⟩ := hrep hcs h1
            obtain ⟨L2, hK2, c3⟩ := hset w Pr (shareL cells) cur [] hh hcs.share h1 hpr (fun p hp => ⟨hp, rfl⟩) (fun x hx => ⟨rfl, fun p hp _ => hp⟩) (fun x hx _ => ⟨rfl, fun p hp _ => hp⟩)
            refine ⟨val, ?_, ⟨Le, Ll, M ++ Lx, L2, { h0 with reg := .cons hrepv h0.reg, K := hK2, cnt := fun x => ?_, new := fun x hx => h0.new x ?_ }⟩, ?_⟩
            · simp only [resRun, Sem.run_bind, hz, asAddr, Sem.run_pure, Result.andThen_ok, hrun]
            · have := h0.cnt x; have := c3 x; have := hM x; have := hcnt x
              simp only [List.count_append, List.count_nil] at *; omega
            · have := c3 x; have := hM x; have := hcnt x
              simp only [List.count_append, List.count_nil] at *; omega
            · obtain ⟨f, K0, hf⟩ := h0.K.cons_inv
              rw [hf, setBox_zero]; rfl
        · cases hx
      · cases hx
    · cases hx

theorem SR.ress : ∀ {rs : List ResultVar} {st st' : St} {xs : List AC} {vs : List Value} {us : List AC}, SR C st a w Pr b xs vs → resVs C.P st rs = some (us, st') →
    ∃ vals : List Value, (rs.mapM (resRun a.tmps)).run C.P w = .ok vals w ∧ us.length = vals.length ∧ SR C st' a w Pr b (us.reverse ++ xs) (vals.reverse ++ vs) ∧ st'.K.tail = st.K.tail := by
  intro rs
  induction rs with
  | nil =>
    intro st st' xs vs us h hr
    simp only [resVs, Option.some.injEq, Prod.mk.injEq] at hr
    obtain ⟨rfl, rfl⟩ := hr
    exact ⟨[], by simp, rfl, by simpa using h, rfl⟩
  | cons r rs ih =>
    intro st st' xs vs us h hr
    simp only [resVs] at hr
    split at hr
    · rename_i v st1 h1
      split at hr
      · rename_i us' st2 h2
        simp only [Option.some.injEq, Prod.mk.injEq] at hr
        obtain ⟨rfl, rfl⟩ := hr
        obtain ⟨val, e1, hS1, k1⟩ := h.res h1
        obtain ⟨vals, e2, hl, hS2, k2⟩ := ih hS1 h2
        refine ⟨val :: vals, ?_, by simp [hl], by simpa [List.append_assoc] using hS2, k2.trans k1⟩
        simp only [List.mapM_cons, Sem.run_bind, e1, Result.andThen_ok, e2, Sem.run_pure]
      · cases hr
    · cases hr

theorem low1_rep {P : Program} {b : List Nat} {bl : List (List Nat)} {c c' : AC} {v : Value} {L : List Nat} (e : low1 c = some c') (h : Rep P w Pr (b :: bl) c v L) : Rep P w Pr bl c' v L := by
  unfold low1 at e
  split at e
  · cases h with
    | agg h1 h2 =>
      rw [Option.map_eq_some_iff] at e
      obtain ⟨cs', e1, rfl⟩ := e
      exact .agg (lowCs_rep (bs := [b]) rfl e1 h1) h2
  · cases h with
    | nam h =>
      cases h with
      | agg h1 h2 =>
        rw [Option.map_eq_some_iff] at e
        obtain ⟨cs', e1, rfl⟩ := e
        exact .agg (lowCs_rep (bs := [b]) rfl e1 h1) h2
  · exact lowC_rep (bs := [b]) rfl e h

theorem lows_rep {P : Program} {b : List Nat} {bl : List (List Nat)} : ∀ {cs cs' : List AC} {vals : List Value} {L : List Nat}, lows cs = some cs' → Reps P w Pr (b :: bl) cs vals L → Reps P w Pr bl cs' vals L := by
  intro cs
  induction cs with
  | nil => intro cs' vals L e h; cases h; simp only [lows, Option.some.injEq] at e; subst e; exact .nil
  | cons c cs ih =>
    intro cs' vals L e h
    simp only [lows] at e
    split at e
    · rename_i v vs h1 h2
      simp only [Option.some.injEq] at e; subst e
      cases h with
      | cons g1 g2 => exact .cons (low1_rep h1 g1) (ih h2 g2)
    · cases e

theorem leL_rep {P : Program} {bl : List (List Nat)} : ∀ {cs ds : List AC} {vals : List Value} {L : List Nat}, AC.leL cs ds → Reps P w Pr bl cs vals L → ∃ L', Reps P w Pr bl ds vals L' ∧ ∀ x, L'.count x ≤ L.count x := by
  intro cs
  induction cs with
  | nil =>
    intro ds vals L e h
    cases ds with
    | nil => exact ⟨L, h, fun x => Nat.le_refl _⟩
    | cons d ds => exact e.elim
  | cons c cs ih =>
    intro ds vals L e h
    cases ds with
    | nil => exact e.elim
    | cons d ds =>
      cases h with
      | cons g1 g2 =>
        obtain ⟨L1, r1, c1⟩ := g1.le e.1
        obtain ⟨L2, r2, c2⟩ := ih e.2 g2
        exact ⟨L1 ++ L2, .cons r1 r2, fun x => by have := c1 x; have := c2 x; simp only [List.count_append]; omega⟩

theorem argEnv_rep {P : Program} {bl bl' : List (List Nat)} (hm : Moves bl bl' (liftP 1)) : ∀ {args : List AC} {vals : List Value} {La : List Nat} (k : Nat) (tmps : Array Value), Reps P w Pr bl args vals La → (∀ j v, vals[j]? = some v → tmps[k + j]? = some v) →
    ∃ L, RepE P w Pr bl' tmps (argEnv k args) L ∧ ∀ x, L.count x ≤ La.count x := by
  intro args
  induction args with
  | nil => intro vals La k tmps h _; exact ⟨[], rfl, fun x => by simp⟩
  | cons c cs ih =>
    intro vals La k tmps h ht
    cases h with
    | cons h1 h2 =>
      rename_i v vs L1 L2
      obtain ⟨M1, r1, c1⟩ := h1.mapV hm
      obtain ⟨M2, r2, c2⟩ := ih (k + 1) tmps h2 (fun j v hj => by have := ht (j + 1) v (by simpa using hj); rwa [show k + (j + 1) = k + 1 + j by omega] at this)
      exact ⟨M1 ++ M2, ⟨M1, M2, v, by simpa using ht 0 v rfl, r1, r2, rfl⟩, fun x => by have := c1 x; have := c2 x; simp only [List.count_append]; omega⟩

theorem argEnv_keys : ∀ (args : List AC) (k j : Nat), j ∈ (argEnv k args).map (·.1) → k ≤ j ∧ j < k + args.length := by
  intro args
  induction args with
  | nil => intro k j h; simp [argEnv] at h
  | cons c cs ih =>
    intro k j h
    simp only [argEnv, List.map_cons, List.mem_cons] at h
    rcases h with rfl | h
    · simp
    · have := ih (k + 1) j h
      simp only [List.length_cons]; omega

theorem argEnv_nodup : ∀ (args : List AC) (k : Nat), ((argEnv k args).map (·.1)).Nodup := by
  intro args
  induction args with
  | nil => intro k; simp [argEnv]
  | cons c cs ih =>
    intro k
    simp only [argEnv, List.map_cons, List.nodup_cons]
    refine ⟨fun h => ?_, ih (k + 1)⟩
    have := argEnv_keys cs (k + 1) k h
    omega
end

theorem results_run {P : Program} {fn : Func} {tmps : Array Value} {vals : List Value} {w : World} (h : (fn.results.toList.mapM (resRun tmps)).run P w = .ok vals w) :
    (results fn tmps).run P w = .ok (if h : vals.toArray.size = 1 then vals.toArray[0] else .tuple vals.toArray) w := by
  unfold results
  rw [Array.mapM_eq_mapM_toList]
  simp only [Sem.run_bind, Sem.run_map]
  change (((List.mapM (resRun tmps) fn.results.toList).run P w).andThen _).andThen _ = _
  rw [h]
  rfl

theorem noOwn_nil {P : Program} {w : World} {Pr : Addr → Prop} {bl : List (List Nat)} : ∀ {cs : List AC} {vs : List Value} {L : List Nat}, cs.all noOwn = true → Reps P w Pr bl cs vs L → L = [] := by
  intro cs
  induction cs with
  | nil => intro vs L _ h; cases h; rfl
  | cons c cs ih =>
    intro vs L hs h
    simp only [List.all_cons, Bool.and_eq_true] at hs
    cases h with
    | cons h1 h2 =>
      have e := ih hs.2 h2
      subst e
      have h0 := hs.1
      unfold noOwn at h0
      split at h0
      · cases h1 <;> rfl
      · cases h1; rfl
      · cases h1; rfl
      · cases h1; rfl
      · cases h0

/-- A function's contract by its body. -/
theorem ct_body {P : Program} {f : FuncId} {fn : Func} {c : Code} {args : List AC} {K K' : List (List (List AC))} {r : AC} (fi : FI) (hf : P.funcs[f]? = some fn) (hb : fn.body = some c)
    (hname : (fn.name == "runtime.NumGoroutine") = false) (hd : dstOk fn.ntmps c = true) (hl : args.length ≤ fi.n0 ∧ args.length ≤ fn.ntmps)
    (h : wC P fi c (retQ P fn.results.toList r K') { env := argEnv 0 args, loc := [], K := [] :: K }) (ht : fi.th = [] ∨ (K = [] ∧ args.all noOwn = true)) : Ct P f args K r K' := by
  refine ⟨⟨fn, hf, by rw [hb]; rfl, hname⟩, ?_⟩
  intro w Pr bl vals La Lk hargs hK hcnt hprlt htab
  have hvl := hargs.length
  let C : Cx := ⟨P, fn.ntmps, fi, w, Pr, La ++ Lk ++ bl.flatten, bl, htab⟩
  let tmps : Array Value := vals.toArray ++ Array.replicate (fn.ntmps - vals.toArray.size) undef
  have htmps : ∀ j v, vals[j]? = some v → tmps[0 + j]? = some v := by
    intro j v hj
    have hjl := (List.getElem?_eq_some_iff.1 hj).1
    show (vals.toArray ++ Array.replicate (fn.ntmps - vals.toArray.size) undef)[0 + j]? = some v
    rw [Nat.zero_add, Array.getElem?_append_left (by simpa using hjl)]
    simpa using hj
  obtain ⟨Le, hE, hEc⟩ := argEnv_rep (moves_lift 1 [[]] bl rfl) 0 tmps hargs htmps
  have hS : SR C { env := argEnv 0 args, loc := [], K := [] :: K } { tmps := tmps, defers := [] } w Pr [] [] [] := by
    refine ⟨Le, [], [], Lk, ⟨hE, rfl, .nil, ⟨[], bl, [], Lk, rfl, ⟨rfl, rfl⟩, hK, rfl⟩, fun x => ?_, fun x hx => ?_, ⟨argEnv_nodup _ _, fun k hk => ?_⟩, by simp, hprlt, ⟨rfl, rfl, rfl, Nat.le_refl _, fun _ _ _ => rfl, fun p hp => ⟨hp, rfl⟩, fun p hp => .inl hp⟩, rfl, ?_⟩⟩
    · have := hcnt x; have := hEc x
      show Le.count x + ([] : List Nat).count x + ([] : List Nat).count x + Lk.count x + ([] :: bl).flatten.count x ≤ 1
      simp only [List.count_append, List.flatten_cons, List.count_nil] at *; omega
    · left
      show x ∈ La ++ Lk ++ bl.flatten
      have hx' : 0 < Le.count x + ([] : List Nat).count x + ([] : List Nat).count x + Lk.count x + ([] :: bl).flatten.count x := hx
      refine List.count_pos_iff.1 ?_
      have := hEc x
      simp only [List.count_append, List.flatten_cons, List.count_nil] at *; omega
    · have := argEnv_keys args 0 k hk
      show fi.isVar k = true
      unfold FI.isVar
      rw [if_pos (by omega)]
    · show (vals.toArray ++ Array.replicate (fn.ntmps - vals.toArray.size) undef).size = fn.ntmps
      simp only [Array.size_append, List.size_toArray, Array.size_replicate]; omega
  have hfree : C.fi.th = [] ∨ FreeC C := by
    rcases ht with ht | ⟨rfl, ht⟩
    · exact .inl ht
    · obtain ⟨rfl, rfl⟩ := hK
      have := noOwn_nil ht hargs
      subst this
      exact .inr ⟨rfl, rfl, hprlt⟩
  have hw := wC_sound (C := C) hfree c _ _ _ _ _ _ hd h hS
  refine calls_of_wp hf hb (wp_mono hw ?_)
  rintro e a' w' ⟨st', Pr', b', hq, hS'⟩
  have key : retOk P fn.results.toList st' r K' → a'.defers = [] ∧ ∃ v, (results fn a'.tmps).run P w' = .ok v w' ∧ ∃ v' Pr' Lr Lk' bl', (.returned v : Ending) = .returned v' ∧ BlExt w.heap.size bl bl' ∧ Rep P w' Pr' bl' r v' Lr ∧ RepK P w' Pr' K' bl' Lk' ∧
      (∀ x, (Lr ++ Lk' ++ bl'.flatten).count x ≤ 1) ∧ (∀ x ∈ Lr ++ Lk', x ∈ La ++ Lk ∨ w.heap.size ≤ x) ∧ (∀ a, Pr' a → a.block < w'.heap.size) ∧ Since w Pr (La ++ Lk ++ bl.flatten) w' Pr' := by
    intro hret
    unfold retOk at hret
    split at hret
    · rename_i us st2 hres
      obtain ⟨hKt, hret⟩ := hret
      obtain ⟨vals', hrun, hul, hS2, hk2⟩ := hS'.ress hres
      have hdef : a'.defers = [] := by obtain ⟨_, _, _, _, h0⟩ := hS'; exact h0.defers
      refine ⟨hdef, _, results_run hrun, ?_⟩
      obtain ⟨Lu, Le2, Ll2, Lx2, Lk2, hu1, h0, hc, hn1⟩ := hS2.out hul
      obtain ⟨f0, K0, hf0⟩ := h0.K.cons_inv
      have hKr := h0.K
      rw [hf0] at hKr
      obtain ⟨b1, bl1, L1, L2, eb, hF1, hK1, eL⟩ := hKr
      have hbl : bl1 = bl := by cases eb; rfl
      subst hbl
      have hK0 : K0 = K' := by rw [← hKt, hf0]; rfl
      subst hK0
      -- the result
      have hfin : ∃ v, (if h : vals'.toArray.size = 1 then vals'.toArray[0] else .tuple vals'.toArray) = v ∧ ∃ Lr, Rep P w' Pr' bl1 r v Lr ∧ ∀ x, Lr.count x ≤ Lu.count x := by
        refine ⟨_, rfl, ?_⟩
        split at hret
        · rename_i v hlow
          have hlr := lows_rep hlow hu1
          have hll := hlr.length
          cases hlr with
          | cons g1 g2 =>
            rename_i val L1 vals2 L2
            cases g2
            obtain ⟨L', r1, c1⟩ := g1.le hret
            refine ⟨L', ?_, fun x => by have := c1 x; simp only [List.append_nil]; omega⟩
            simpa using r1
        · rename_i vs2 hne hlow
          obtain ⟨ws, rfl, hle⟩ := hret
          have hlr := lows_rep hlow hu1
          have hll := hlr.length
          obtain ⟨L', r1, c1⟩ := leL_rep hle hlr
          have hsz : ¬ vals'.toArray.size = 1 := by
            intro e1
            have : vs2.length = 1 := by rw [hll]; simpa using e1
            match vs2, this with
            | [v], _ => exact hne v rfl
          rw [dif_neg hsz]
          exact ⟨L', .tup r1, c1⟩
        · exact hret.elim
      obtain ⟨v, ev, Lr, hr, hrc⟩ := hfin
      rw [ev]
      have hcc : ∀ x, Lr.count x + L2.count x + bl1.flatten.count x ≤ 1 := by
        intro x
        have h1 := hc x; have h2 := hrc x
        have h3 : Lk2.count x = L1.count x + L2.count x := by rw [eL]; simp
        have h4 : (b' :: C.bl0).flatten.count x = b'.count x + bl1.flatten.count x := by
          show (b' :: bl1).flatten.count x = _
          simp
        omega
      refine ⟨v, Pr', Lr, L2, bl1, rfl, .inl rfl, hr, hK1, fun x => by have := hcc x; simp only [List.count_append]; omega, fun x hx => ?_, h0.prlt, h0.since⟩
      have hx' := List.count_pos_iff.2 hx
      have h3 : Lk2.count x = L1.count x + L2.count x := by rw [eL]; simp
      have hin : x ∈ C.F ∨ C.w0.heap.size ≤ x := by
        by_cases h1 : 0 < Lu.count x
        · exact hn1 x h1
        · refine h0.new x ?_
          have := hrc x
          simp only [List.count_append] at hx'
          omega
      rcases hin with hin | hin
      · have hin' : x ∈ La ++ Lk ++ bl1.flatten := hin
        rcases List.mem_append.1 hin' with h1 | h1
        · exact .inl h1
        · have := List.count_pos_iff.2 h1
          have := hcc x
          simp only [List.count_append] at hx'
          omega
      · exact .inr hin
    · exact hret.elim
  cases e with
  | normal => exact key hq
  | ret => exact key hq
  | exit id => exact hq.elim
  | goto l => exact hq.elim
  | panic ch => exact hq.elim
  | outgrown => exact hq.elim

/-- The contract of a function that writes what its first argument alone holds, by its body. -/
theorem ct_bodyB {P : Program} {f : FuncId} {fn : Func} {c : Code} {a0 : AC} {args : List AC} {K K' : List (List (List AC))} {r back : AC} (fi : FI) (hf : P.funcs[f]? = some fn) (hb : fn.body = some c)
    (hname : (fn.name == "runtime.NumGoroutine") = false) (hd : dstOk fn.ntmps c = true) (hl : args.length + 1 ≤ fi.n0 ∧ args.length + 1 ≤ fn.ntmps)
    (h : ∀ y, wC P fi c (retQB P fn.results.toList y r K' back) { env := (0, .nam y (mapV (liftP 1) a0)) :: argEnv 1 args, loc := [], K := [] :: K }) (ht : fi.th = []) : CtB P f (a0 :: args) K r K' back := by
  refine ⟨⟨fn, hf, by rw [hb]; rfl, hname⟩, ?_⟩
  intro w Pr bl v0 vals0 La Lk hargs hK hcnt hprlt htab
  have h := h v0
  generalize hvals : v0 :: vals0 = vals at hargs
  have hvl := hargs.length
  simp only [List.length_cons] at hvl
  let C : Cx := ⟨P, fn.ntmps, fi, w, Pr, La ++ Lk ++ bl.flatten, bl, htab⟩
  let tmps : Array Value := vals.toArray ++ Array.replicate (fn.ntmps - vals.toArray.size) undef
  have htmps : ∀ j v, vals[j]? = some v → tmps[0 + j]? = some v := by
    intro j v hj
    have hjl := (List.getElem?_eq_some_iff.1 hj).1
    show (vals.toArray ++ Array.replicate (fn.ntmps - vals.toArray.size) undef)[0 + j]? = some v
    rw [Nat.zero_add, Array.getElem?_append_left (by simpa using hjl)]
    simpa using hj
  obtain ⟨Le, hE, hEc⟩ := argEnv_rep (args := a0 :: args) (moves_lift 1 [[]] bl rfl) 0 tmps hargs htmps
  have h00 : tmps[0]? = some v0 := htmps 0 v0 (by rw [← hvals]; rfl)
  have hE2 : RepE P w Pr ([] :: bl) tmps ((0, .nam v0 (mapV (liftP 1) a0)) :: argEnv 1 args) Le := by
    obtain ⟨L1, L2, x, hx, hr, hE3, rfl⟩ := hE
    have hxv : x = v0 := by
      have hx' : tmps[0]? = some x := hx
      rw [h00] at hx'; cases hx'; rfl
    subst hxv
    exact ⟨L1, L2, x, h00, .nam hr, hE3, rfl⟩
  have hS : SR C { env := (0, .nam v0 (mapV (liftP 1) a0)) :: argEnv 1 args, loc := [], K := [] :: K } { tmps := tmps, defers := [] } w Pr [] [] [] := by
    refine ⟨Le, [], [], Lk, ⟨hE2, rfl, .nil, ⟨[], bl, [], Lk, rfl, ⟨rfl, rfl⟩, hK, rfl⟩, fun x => ?_, fun x hx => ?_, ⟨argEnv_nodup (a0 :: args) 0, fun k hk => ?_⟩, by simp, hprlt, ⟨rfl, rfl, rfl, Nat.le_refl _, fun _ _ _ => rfl, fun p hp => ⟨hp, rfl⟩, fun p hp => .inl hp⟩, rfl, ?_⟩⟩
    · have := hcnt x; have := hEc x
      show Le.count x + ([] : List Nat).count x + ([] : List Nat).count x + Lk.count x + ([] :: bl).flatten.count x ≤ 1
      simp only [List.count_append, List.flatten_cons, List.count_nil] at *; omega
    · left
      show x ∈ La ++ Lk ++ bl.flatten
      have hx' : 0 < Le.count x + ([] : List Nat).count x + ([] : List Nat).count x + Lk.count x + ([] :: bl).flatten.count x := hx
      refine List.count_pos_iff.1 ?_
      have := hEc x
      simp only [List.count_append, List.flatten_cons, List.count_nil] at *; omega
    · have := argEnv_keys (a0 :: args) 0 k hk; simp only [List.length_cons] at this
      show fi.isVar k = true
      unfold FI.isVar
      rw [if_pos (by omega)]
    · show (vals.toArray ++ Array.replicate (fn.ntmps - vals.toArray.size) undef).size = fn.ntmps
      simp only [Array.size_append, List.size_toArray, Array.size_replicate]; omega
  have hw := wC_sound (C := C) (.inl ht) c _ _ _ _ _ _ hd h hS
  refine calls_of_wp hf hb (wp_mono hw ?_)
  rintro e a' w' ⟨st', Pr', b', hq, hS'⟩
  have key : retB P fn.results.toList v0 r K' back st' → a'.defers = [] ∧ ∃ v, (results fn a'.tmps).run P w' = .ok v w' ∧ ∃ v' Pr' Lr Lb Lk' bl', (.returned v : Ending) = .returned v' ∧ BlExt w.heap.size bl bl' ∧ Rep P w' Pr' bl' r v' Lr ∧ Rep P w' Pr' bl' back v0 Lb ∧ RepK P w' Pr' K' bl' Lk' ∧
      (∀ x, (Lr ++ Lb ++ Lk' ++ bl'.flatten).count x ≤ 1) ∧ (∀ x ∈ Lr ++ Lb ++ Lk', x ∈ La ++ Lk ∨ w.heap.size ≤ x) ∧ (∀ a, Pr' a → a.block < w'.heap.size) ∧ Since w Pr (La ++ Lk ++ bl.flatten) w' Pr' := by
    intro hret
    unfold retB at hret
    split at hret
    · rename_i us st2 hres
      obtain ⟨hKt, hret, hback⟩ := hret
      obtain ⟨vals', hrun, hul, hS2, hk2⟩ := hS'.ress hres
      have hdef : a'.defers = [] := by obtain ⟨_, _, _, _, h0⟩ := hS'; exact h0.defers
      refine ⟨hdef, _, results_run hrun, ?_⟩
      obtain ⟨Lu, Le2, Ll2, Lx2, Lk2, hu1, h0, hc, hn1⟩ := hS2.out hul
      obtain ⟨f0, K0, hf0⟩ := h0.K.cons_inv
      have hKr := h0.K
      rw [hf0] at hKr
      obtain ⟨b1, bl1, L1, L2, eb, hF1, hK1, eL⟩ := hKr
      have hbl : bl1 = bl := by cases eb; rfl
      subst hbl
      have hK0 : K0 = K' := by rw [← hKt, hf0]; rfl
      subst hK0
      -- the result
      have hfin : ∃ v, (if h : vals'.toArray.size = 1 then vals'.toArray[0] else .tuple vals'.toArray) = v ∧ ∃ Lr, Rep P w' Pr' bl1 r v Lr ∧ ∀ x, Lr.count x ≤ Lu.count x := by
        refine ⟨_, rfl, ?_⟩
        split at hret
        · rename_i v hlow
          have hlr := lows_rep hlow hu1
          have hll := hlr.length
          cases hlr with
          | cons g1 g2 =>
            rename_i val L1 vals2 L2
            cases g2
            obtain ⟨L', r1, c1⟩ := g1.le hret
            refine ⟨L', ?_, fun x => by have := c1 x; simp only [List.append_nil]; omega⟩
            simpa using r1
        · rename_i vs2 hne hlow
          obtain ⟨ws, rfl, hle⟩ := hret
          have hlr := lows_rep hlow hu1
          have hll := hlr.length
          obtain ⟨L', r1, c1⟩ := leL_rep hle hlr
          have hsz : ¬ vals'.toArray.size = 1 := by
            intro e1
            have : vs2.length = 1 := by rw [hll]; simpa using e1
            match vs2, this with
            | [v], _ => exact hne v rfl
          rw [dif_neg hsz]
          exact ⟨L', .tup r1, c1⟩
        · exact hret.elim
      obtain ⟨v, ev, Lr, hr, hrc⟩ := hfin
      rw [ev]
      have hbk : ∃ Lb, Rep P w' Pr' bl1 back v0 Lb ∧ ∀ x, Lb.count x ≤ Le2.count x := by
        split at hback
        · rename_i y' vb hlk
          obtain ⟨rfl, hback⟩ := hback
          split at hback
          · rename_i vb' hlow
            obtain ⟨x, Lv, hx, hrb, hLv⟩ := h0.env.look hlk
            have hxy := hrb.nam_val
            subst hxy
            obtain ⟨Lb, hrb2, hLb⟩ := (low1_rep (b := b') (bl := bl1) hlow hrb.nam_inv).le hback
            exact ⟨Lb, hrb2, fun z => Nat.le_trans (hLb z) (hLv z)⟩
          · exact hback.elim
        · exact hback.elim
      obtain ⟨Lb, hrb, hbc⟩ := hbk
      have hcc : ∀ x, Lr.count x + Lb.count x + L2.count x + bl1.flatten.count x ≤ 1 := by
        intro x
        have h1 := hc x; have h2 := hrc x; have h2b := hbc x
        have h3 : Lk2.count x = L1.count x + L2.count x := by rw [eL]; simp
        have h4 : (b' :: C.bl0).flatten.count x = b'.count x + bl1.flatten.count x := by
          show (b' :: bl1).flatten.count x = _
          simp
        omega
      refine ⟨v, Pr', Lr, Lb, L2, bl1, rfl, .inl rfl, hr, hrb, hK1, fun x => by have := hcc x; simp only [List.count_append]; omega, fun x hx => ?_, h0.prlt, h0.since⟩
      have hx' := List.count_pos_iff.2 hx
      have h3 : Lk2.count x = L1.count x + L2.count x := by rw [eL]; simp
      have hin : x ∈ C.F ∨ C.w0.heap.size ≤ x := by
        by_cases h1 : 0 < Lu.count x
        · exact hn1 x h1
        · refine h0.new x ?_
          have := hrc x; have := hbc x
          simp only [List.count_append] at hx'
          omega
      rcases hin with hin | hin
      · have hin' : x ∈ La ++ Lk ++ bl1.flatten := hin
        rcases List.mem_append.1 hin' with h1 | h1
        · exact .inl h1
        · have := List.count_pos_iff.2 h1
          have := hcc x
          simp only [List.count_append] at hx'
          omega
      · exact .inr hin
    · exact hret.elim
  cases e with
  | normal => exact key hq
  | ret => exact key hq
  | exit id => exact hq.elim
  | goto l => exact hq.elim
  | panic ch => exact hq.elim
  | outgrown => exact hq.elim
end Go.Proofs.YtkpdlbidadcdjaaDoor.Abs
