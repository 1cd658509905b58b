/- Code, and a function's body: the weakest precondition gives the contract. No condition. -/
import Derived.Test.YtkefgpmnimpcdaaGreatDoorAbsW
import GoSem.ClaimJoined
import Derived.Carry
import Derived.ProofKit
import Derived.OpenShut
import Derived.ShutString
import Derived.ChangeOld
import Derived.Below
import Derived.SizedLaws
import Derived.WalkKit
set_option linter.unusedVariables false
set_option linter.unusedSimpArgs false
namespace Go.Proofs.YtkefgpmnimpcdaaGreatDoor.Abs
open Go
section
variable {C : Cx} {st : St} {a : Act} {w : World} {Pr : Addr → Prop} {b : List Nat} {xs : List AC} {vs : List Value} {m : Bool}

def CQ (C : Cx) (Q : Exit → St → Prop) (e : Exit) (a : Act) (w : World) : Prop := ∃ st Pr b, Q e st ∧ SR C st a w Pr b [] []

theorem wRun_sound {k : St → Prop} {Q : Exit → Act → World → Prop} {id : Nat} {ops : Array Oper} {d : Bool} (hk : ∀ st' a' w' Pr' b', k st' → SR C st' a' w' Pr' b' [] [] → Q .normal a' w')
    (hd : ops.toList.all (opDst C.N) = true) (h : wRun C.P C.fi ops d k st) (hS : SR C st a w Pr b [] []) : (Code.region id ops d).wp C.P Q a w := by
  cases d with
  | true =>
    obtain ⟨hm, h⟩ := h.1 rfl
    rcases h with ⟨kd, qs, qr, hck, h⟩ | ⟨T, hck, hp, h⟩ | ⟨E, hck, hp, h⟩ | ⟨kd, p, q, hck, hA, hB⟩
    have conv : ∀ st a w Pr b, SR { C with fi := { C.fi with es := false, bw := [], qs := qs, qr := qr } } st a w Pr b [] [] → SR C st a w Pr b [] [] := by
      rintro st a w Pr b ⟨Le, Ll, Lx, Lk, h⟩
      exact ⟨Le, Ll, Lx, Lk, ⟨h.env, h.loc, h.reg, h.K, h.cnt, h.new, h.kE, h.kL, h.prlt, h.since, h.defers, h.size⟩⟩
    have hS2 : SR { C with fi := { C.fi with es := false, bw := [], qs := qs, qr := qr } } st a w Pr b [] [] := by
      obtain ⟨Le, Ll, Lx, Lk, h⟩ := hS
      exact ⟨Le, Ll, Lx, Lk, ⟨h.env, h.loc, h.reg, h.K, h.cnt, h.new, h.kE, h.kL, h.prlt, h.since, h.defers, h.size⟩⟩
    exact draw_sound (C := { C with fi := { C.fi with es := false, bw := [], qs := qs, qr := qr } }) hm ((drawOk_qr (qr := qr)).trans hck) hd (fun st' a' w' Pr' b' hk' hS' => hk st' a' w' Pr' b' hk' (conv _ _ _ _ _ hS')) h hS2
    · exact draw_tab hm hck hp hd hk h hS
    · exact draw_tab2 hm hck hp hd hk h hS
    have conv : ∀ st a w Pr b, SR { C with fi := { C.fi with es := false, bw := [], qs := [], qr := [] } } st a w Pr b [] [] → SR C st a w Pr b [] [] := by
      rintro st a w Pr b ⟨Le, Ll, Lx, Lk, h⟩
      exact ⟨Le, Ll, Lx, Lk, ⟨h.env, h.loc, h.reg, h.K, h.cnt, h.new, h.kE, h.kL, h.prlt, h.since, h.defers, h.size⟩⟩
    have hS2 : SR { C with fi := { C.fi with es := false, bw := [], qs := [], qr := [] } } st a w Pr b [] [] := by
      obtain ⟨Le, Ll, Lx, Lk, h⟩ := hS
      exact ⟨Le, Ll, Lx, Lk, ⟨h.env, h.loc, h.reg, h.K, h.cnt, h.new, h.kE, h.kL, h.prlt, h.since, h.defers, h.size⟩⟩
    exact draw_sound2 (C := { C with fi := { C.fi with es := false, bw := [], qs := [], qr := [] } }) hm hck hd (fun st' a' w' Pr' b' hk' hS' => hk st' a' w' Pr' b' hk' (conv _ _ _ _ _ hS')) hA hB hS2
  | false =>
    exact wp_region_list (wOps_sound hk _ _ _ _ _ _ hd (h.2 rfl) hS)

/-- Slots under names. -/
theorem nameE_sound {P : Program} {bl : List (List Nat)} {tmps : Array Value} : ∀ {env : List (Nat × AC)} {L : List Nat} {k : List (Nat × AC) → Prop}, RepE P w Pr bl tmps env L → nameE env k →
    ∃ env', k env' ∧ RepE P w Pr bl tmps env' L ∧ env'.map (·.1) = env.map (·.1) := by
  intro env
  induction env with
  | nil => intro L k h hk; exact ⟨[], hk, h, rfl⟩
  | cons e env ih =>
    intro L k h hk
    obtain ⟨j, v⟩ := e
    obtain ⟨L1, L2, x, hx, hr, hE, rfl⟩ := h
    simp only [nameE] at hk
    split at hk
    · obtain ⟨env', h1, h2, h3⟩ := ih hE (hk x)
      exact ⟨_, h1, ⟨L1, L2, x, hx, .nam hr, h2, rfl⟩, by simp [h3]⟩
    · obtain ⟨env', h1, h2, h3⟩ := ih hE hk
      exact ⟨_, h1, ⟨L1, L2, x, hx, hr, h2, rfl⟩, by simp [h3]⟩

theorem flat_lend {c : AC} (h : Abs.flat c = true) : Abs.flat (lendS c) = true := by
  cases c with
  | sl o n cs => cases o <;> simp [lendS, Abs.flat]
  | nam x v => simp [Abs.flat] at h
  | agg cs => simp [Abs.flat] at h
  | tup cs => simp [Abs.flat] at h
  | opt g v => simp [Abs.flat] at h
  | bool b => simp [lendS, Abs.flat]
  | int k n => simp [lendS, Abs.flat]
  | str s => simp [lendS, Abs.flat]
  | undef => simp [lendS, Abs.flat]
  | _ => simp [Abs.flat] at h
theorem flat_lendL : ∀ {cs : List AC}, cs.all Abs.flat = true → (lendL cs).all Abs.flat = true := by
  intro cs; induction cs with
  | nil => intro _; simp [lendL]
  | cons c cs ih =>
    intro h
    simp only [List.all_cons, Bool.and_eq_true] at h
    simp only [lendL, List.all_cons, Bool.and_eq_true]
    exact ⟨flat_lend h.1, ih h.2⟩
theorem lendV_rep {P : Program} {bl bl' : List (List Nat)} {Pr1 : Addr → Prop} {K : List (List (List AC))} {LK L : List Nat} {v : AC} {x : Value} (hK : RepK P w Pr K bl LK) (hnd : ∀ x, bl.flatten.count x ≤ 1) (hp : ∀ a, Pr a → Pr1 a)
    (hb : ∀ g, g ∈ bl.flatten ∨ g ∈ LK → ∀ a : Addr, a.block = g → Pr1 a) (hr : Rep P w Pr bl v x L) (hin : ∀ g ∈ L, ∀ a : Addr, a.block = g → Pr1 a) : Rep P w Pr1 bl' (lendV K v) x [] := by
  have hu : Rep P w Pr bl (unN v) x L := by
    cases v with
    | nam y v => exact hr.nam_inv
    | _ => exact hr
  unfold lendV
  generalize unN v = u at hu
  split
  · split
    · rename_i cells hc
      split
      · rename_i hf
        cases hu with
        | ptr hg =>
          obtain ⟨cur, T, Li, Lr, h1, h2, h3, h4, h5, h6, _⟩ := hK.set hc hg hnd
          have h7 := h2.lend (Pr' := Pr1) hp (fun g hg => hb g (.inr (List.count_pos_iff.1 (by have := h6 g; have := List.count_pos_iff.2 hg; omega))))
          refine .ref (h7.flat (flat_lendL hf)) h3 fun j u hj => ⟨hb _ (.inl h5) _ (by rw [Addr.add_lit]), ?_⟩
          rw [Addr.add_lit, cell_of_row w _ _ _ _ _ h1]
          simpa using hj
      · exact .undef
    · exact .undef
  · split
    · rename_i hf
      cases hu with
      | agg h1 h2 => exact .agg ((h1.lend hp hin).flat (flat_lendL hf)) h2
    · exact .undef
  · split
    · rename_i hf
      exact (hu.lend hp hin).flat (flat_lend hf)
    · exact .undef
theorem nameX_sound {P : Program} {bl bl' : List (List Nat)} {tmps : Array Value} {Pr1 : Addr → Prop} {K : List (List (List AC))} {LK : List Nat} (hK : RepK P w Pr K bl LK) (hnd : ∀ x, bl.flatten.count x ≤ 1) (hp : ∀ a, Pr a → Pr1 a)
    (hb : ∀ g, g ∈ bl.flatten ∨ g ∈ LK → ∀ a : Addr, a.block = g → Pr1 a) : ∀ {env : List (Nat × AC)} {L : List Nat} {k : List (Nat × AC) → Prop}, RepE P w Pr bl tmps env L →
    (∀ g ∈ L, ∀ a : Addr, a.block = g → Pr1 a) → nameX K env k →
    ∃ env1, k env1 ∧ RepE P w Pr1 bl' tmps env1 [] ∧ env1.map (·.1) = env.map (·.1) ∧ ∀ j y v, look j env1 = some (.nam y v) → tmps[j]? = some y := by
  intro env
  induction env with
  | nil => intro L k h hin hk; exact ⟨[], hk, rfl, rfl, fun j y v h => by simp [look] at h⟩
  | cons e env ih =>
    intro L k h hin hk
    obtain ⟨j, v⟩ := e
    obtain ⟨L1, L2, x, hx, hr, hE, rfl⟩ := h
    simp only [nameX] at hk
    split at hk
    · rename_i hsc
      obtain ⟨env', h1, h2, h3, h4⟩ := ih hE (fun g hg => hin g (List.mem_append_right _ hg)) hk
      refine ⟨_, h1, ⟨[], [], x, hx, ?_, h2, rfl⟩, by simp [h3], fun i y u hi => ?_⟩
      · cases v <;> simp only [scalar, Bool.false_eq_true] at hsc
        · cases hr; exact .bool
        · cases hr; exact .int
        · cases hr with | str q1 q2 => exact .str q1 q2
      · simp only [look] at hi
        split at hi
        · cases hi; simp [scalar] at hsc
        · exact h4 _ _ _ hi
    · obtain ⟨env', h1, h2, h3, h4⟩ := ih hE (fun g hg => hin g (List.mem_append_right _ hg)) (hk x)
      refine ⟨_, h1, ⟨[], [], x, hx, .nam (lendV_rep hK hnd hp hb hr fun g hg => hin g (List.mem_append_left _ hg)), h2, rfl⟩, by simp [h3], fun i y u hi => ?_⟩
      simp only [look] at hi
      split at hi
      · rename_i e1; subst e1; cases hi; exact hx
      · exact h4 _ _ _ hi

mutual
theorem closed_toEx : ∀ {c : AC}, closed c = true → closed (Abs.toEx c) = true
  | .sl .no n cs, h => by simp [closed] at h
  | .sl .nil n cs, h => by simp [Abs.toEx, closed]
  | .sl (.of e) n cs, h => by simp only [closed] at h; simp only [Abs.toEx, closed]; exact closed_toExL h
  | .sl (.ex e) n cs, h => by simp only [closed] at h; simp only [Abs.toEx, closed]; exact closed_toExL h
  | .agg cs, h => by simp only [closed] at h; simp only [Abs.toEx, closed]; exact closed_toExL h
  | .tup cs, h => by simp only [closed] at h; simp only [Abs.toEx, closed]; exact closed_toExL h
  | .bool b, h => by simp [Abs.toEx, closed]
  | .int k n, h => by simp [Abs.toEx, closed]
  | .str s, h => by simp [Abs.toEx, closed]
  | .ptr u i o, h => by simp [closed] at h
  | .ref cs, h => by simp [closed] at h
  | .fn f cs, h => by simp [closed] at h
  | .opt g v, h => by simp [closed] at h
  | .nam x v, h => by simp [closed] at h
  | .ept t x o, h => by simp [closed] at h
  | .als t o x n, h => by simp [closed] at h
  | .undef, h => by simp [closed] at h
theorem closed_toExL : ∀ {cs : List AC}, closedL cs = true → closedL (Abs.toExL cs) = true
  | [], h => by simp [Abs.toExL, closedL]
  | c :: cs, h => by
    simp only [closedL, Bool.and_eq_true] at h
    simp only [Abs.toExL, closedL, Bool.and_eq_true]
    exact ⟨closed_toEx h.1, closed_toExL h.2⟩
end
mutual
theorem Rep.clbl {P : Program} : ∀ {bl bl' c v L}, Rep P w Pr bl c v L → closed c = true → Rep P w Pr bl' c v L
  | _, _, _, _, _, .bool, _ => .bool
  | _, _, _, _, _, .int, _ => .int
  | _, _, _, _, _, .str h h', _ => .str h h'
  | _, _, _, _, _, .slNo h1 h2 h3 h4 h5, _ => .slNo h1 h2 h3 h4 h5
  | _, _, _, _, _, .slNil, _ => .slNil
  | _, _, _, _, _, .slOf h1 h2 h3 h4 h5 h6 h7 h8 h9 h10, _ => .slOf h1 h2 h3 h4 h5 h6 h7 h8 h9 h10
  | _, _, _, _, _, .slEx h1 h2 h3 h4 h5 h6 h7 h8 h9, _ => .slEx h1 h2 h3 h4 h5 h6 h7 h8 h9
  | _, _, _, _, _, .nam h, hc => by simp [closed] at hc
  | _, _, _, _, _, .ept, hc => by simp [closed] at hc
  | _, _, _, _, _, .als h1 h2, hc => by simp [closed] at hc
  | _, _, _, _, _, .alsA, hc => by simp [closed] at hc
  | _, _, _, _, _, .agg h1 h2, hc => .agg (Reps.clbl h1 (by simpa only [closed] using hc)) h2
  | _, _, _, _, _, .tup h1, hc => .tup (Reps.clbl h1 (by simpa only [closed] using hc))
  | _, _, _, _, _, .ptr h, hc => by simp [closed] at hc
  | _, _, _, _, _, .ref h1 h2 h3, hc => by simp [closed] at hc
  | _, _, _, _, _, .fn h0 h, hc => by simp [closed] at hc
  | _, _, _, _, _, .optT h, hc => by simp [closed] at hc
  | _, _, _, _, _, .optF, hc => by simp [closed] at hc
  | _, _, _, _, _, .undef, hc => by simp [closed] at hc
theorem Reps.clbl {P : Program} : ∀ {bl bl' cs vs L}, Reps P w Pr bl cs vs L → closedL cs = true → Reps P w Pr bl' cs vs L
  | _, _, _, _, _, .nil, _ => .nil
  | _, _, _, _, _, .cons h1 h2, hc => by
    simp only [closedL, Bool.and_eq_true] at hc
    exact .cons (Rep.clbl h1 hc.1) (Reps.clbl h2 hc.2)
end

theorem backE_sound {P : Program} {bl bl' : List (List Nat)} {tmps tmps' : Array Value} {w' : World} {Pr' : Addr → Prop} {env0 env1 : List (Nat × AC)} {Lall : List Nat}
    (hname : ∀ j y v, look j env1 = some (.nam y v) → tmps[j]? = some y) (hkp : ∀ c z M, Rep P w Pr bl c z M → (∀ g ∈ M, g ∈ Lall) → Rep P w' Pr bl c z M) :
    ∀ {r : List (Nat × AC)} {L' L0 : List Nat} {env0' : List (Nat × AC)} {k : List (Nat × AC) → Prop}, (r.map (·.1)).Nodup → RepE P w' Pr' bl' tmps' r L' → (∀ g ∈ L', ∀ a : Addr, Pr a → a.block ≠ g) →
      (∀ j ∈ r.map (·.1), look j env0' = look j env0) → RepE P w Pr bl tmps env0' L0 → (∀ g ∈ L0, g ∈ Lall) → backE env0 env1 r k →
      ∃ e L2, k e ∧ RepE P w' Pr bl tmps' e L2 ∧ e.map (·.1) = r.map (·.1) ∧ ∀ x, L2.count x ≤ L0.count x + L'.count x := by
  intro r
  induction r with
  | nil => intro L' L0 env0' k _ h _ _ _ _ hk; exact ⟨[], [], hk, rfl, rfl, fun x => by simp⟩
  | cons e r ih =>
    intro L' L0 env0' k hn h hfr hl h0 hin hk
    obtain ⟨j, v⟩ := e
    obtain ⟨L1, L2, x, hx, hr, hE, rfl⟩ := h
    simp only [List.map_cons, List.nodup_cons] at hn
    simp only [backE] at hk
    split at hk
    · rename_i y v'
      split at hk
      · rename_i y' v1 u hj1 hj0
        obtain ⟨rfl, hk⟩ := hk
        have hjl : look j env0' = some u := by rw [hl j (by simp)]; exact hj0
        obtain ⟨x0, Lv, L3, env', hx0, hr0, hE0, hlk, hc⟩ := h0.remove hjl
        have hxy := hr.nam_val
        have hx0y : x0 = y' := by have := hname _ _ _ hj1; rw [this] at hx0; cases hx0; rfl
        obtain ⟨e, L4, g1, g2, g3, g4⟩ := ih (env0' := env') hn.2 hE (fun g hg => hfr g (List.mem_append_right _ hg)) (fun i hi => by
          have hne : i ≠ j := fun e => hn.1 (by rw [← e]; exact hi)
          rw [hlk i hne]; exact hl i (by simp only [List.map_cons, List.mem_cons]; exact .inr hi)) hE0 (fun g hg => hin g (List.count_pos_iff.1 (by have := hc g; have := List.count_pos_iff.2 hg; omega))) hk
        refine ⟨_, Lv ++ L4, g1, ⟨Lv, L4, x, hx, ?_, g2, rfl⟩, by simp [g3], fun z => by have := g4 z; have := hc z; simp only [List.count_append]; omega⟩
        rw [← hxy, ← hx0y]
        exact hkp _ _ _ hr0 fun g hg => hin g (List.count_pos_iff.1 (by have := hc g; have := List.count_pos_iff.2 hg; omega))
      · exact hk.elim
    · obtain ⟨hcl, hk⟩ := hk
      obtain ⟨e, L4, g1, g2, g3, g4⟩ := ih (env0' := env0') hn.2 hE (fun g hg => hfr g (List.mem_append_right _ hg)) (fun i hi => hl i (by simp only [List.map_cons, List.mem_cons]; exact .inr hi)) h0 hin hk
      exact ⟨_, L1 ++ L4, g1, ⟨L1, L4, x, hx, (hr.toEx hcl fun g hg => hfr g (List.mem_append_left _ hg)).clbl (closed_toEx hcl), g2, rfl⟩, by simp [g3], fun z => by have := g4 z; simp only [List.count_append]; omega⟩

theorem keepS_rep {P : Program} {Pr' : Addr → Prop} {bl bl' : List (List Nat)} {tmps : Array Value} : ∀ {l : List (Nat × AC)} {L : List Nat}, RepE P w Pr' bl' tmps l L → RepE P w Pr bl tmps (keepS l) [] := by
  intro l
  induction l with
  | nil => intro L _; rfl
  | cons e r ih =>
    intro L h
    obtain ⟨j, v⟩ := e
    obtain ⟨L1, L2, x, hx, hr, hE, rfl⟩ := h
    unfold keepS
    split
    · rename_i hs
      refine ⟨[], [], x, hx, ?_, ih hE, rfl⟩
      cases v <;> simp [scalar] at hs
      · cases hr; exact .bool
      · cases hr; exact .int
      · cases hr with | str q1 q2 => exact .str q1 q2
    · exact ih hE
theorem keepS_sub : ∀ {l : List (Nat × AC)}, ((keepS l).map (·.1)).Sublist (l.map (·.1)) := by
  intro l
  induction l with
  | nil => exact .slnil
  | cons e r ih =>
    obtain ⟨j, v⟩ := e
    unfold keepS
    split
    · simpa using ih
    · simpa using ih.cons j
theorem RepK.empty {P : Program} : ∀ {K : List (List (List AC))} {bl : List (List Nat)} {L : List Nat}, RepK P w Pr (noK K) bl L → bl = K.map (fun _ => []) ∧ L = [] := by
  intro K
  induction K with
  | nil => intro bl L h; obtain ⟨rfl, rfl⟩ := h; exact ⟨rfl, rfl⟩
  | cons f K ih =>
    intro bl L h
    obtain ⟨b, bl', L1, L2, rfl, ⟨rfl, rfl⟩, h2, rfl⟩ := h
    obtain ⟨rfl, rfl⟩ := ih h2
    exact ⟨rfl, rfl⟩
theorem RepK.none {P : Program} : ∀ {K : List (List (List AC))}, RepK P w Pr (noK K) (K.map fun _ => []) [] := by
  intro K
  induction K with
  | nil => exact ⟨rfl, rfl⟩
  | cons f K ih => exact ⟨[], _, [], [], rfl, ⟨rfl, rfl⟩, ih, rfl⟩
theorem RepK.lens {P : Program} : ∀ {K : List (List (List AC))} {bl : List (List Nat)} {L : List Nat}, RepK P w Pr K bl L → (K.map fun _ => ([] : List Nat)) = bl.map fun _ => [] := by
  intro K
  induction K with
  | nil => intro bl L h; obtain ⟨rfl, rfl⟩ := h; rfl
  | cons f K ih =>
    intro bl L h
    obtain ⟨b, bl', L1, L2, rfl, _, h2, rfl⟩ := h
    simp [ih h2]
theorem flat_nil {bl : List (List Nat)} : (bl.map fun _ => ([] : List Nat)).flatten = [] := by
  induction bl with
  | nil => rfl
  | cons b bl ih => simp

theorem thawE_rep {P : Program} {bl : List (List Nat)} {tmps : Array Value} {Pr' : Addr → Prop} : ∀ {l : List (Nat × AC)} {L : List Nat}, RepE P w Pr bl tmps l L → RepE P w Pr' bl tmps (thawE l) [] := by
  intro l
  induction l with
  | nil => intro L _; exact rfl
  | cons e r ih =>
    obtain ⟨j, v⟩ := e
    intro L h
    obtain ⟨L1, L2, x, hx, hr, hE, rfl⟩ := h
    have ih := ih hE
    unfold thawE
    split
    · exact ⟨[], [], x, hx, by cases hr; exact .bool, ih, rfl⟩
    · exact ⟨[], [], x, hx, by cases hr; exact .int, ih, rfl⟩
    · exact ⟨[], [], x, hx, by cases hr with | str q1 q2 => exact .str q1 q2, ih, rfl⟩
    · exact ⟨[], [], x, hx, by cases hr with | ptr q1 => exact .ptr q1, ih, rfl⟩
    · exact ih
theorem thawE_sub : ∀ {l : List (Nat × AC)}, ((thawE l).map (·.1)).Sublist (l.map (·.1)) := by
  intro l
  induction l with
  | nil => exact .slnil
  | cons e r ih =>
    obtain ⟨j, v⟩ := e
    unfold thawE
    split
    · simpa using ih
    · simpa using ih
    · simpa using ih
    · simpa using ih
    · simpa using ih.cons j
theorem scal_reps {P : Program} {bl : List (List Nat)} {Pr' : Addr → Prop} : ∀ {cs : List AC} {vs : List Value} {L : List Nat}, cs.all scalar = true → Reps P w Pr bl cs vs L → Reps P w Pr' bl cs vs [] := by
  intro cs
  induction cs with
  | nil => intro vs L _ h; cases h; exact .nil
  | cons c cs ih =>
    intro vs L hs h
    simp only [List.all_cons, Bool.and_eq_true] at hs
    cases h with
    | cons h1 h2 =>
      have h3 := ih hs.2 h2
      have h0 := hs.1
      refine Reps.cons (L := []) (M := []) ?_ h3
      cases c <;> simp [scalar] at h0
      · cases h1; exact .bool
      · cases h1; exact .int
      · cases h1 with | str q1 q2 => exact .str q1 q2
theorem thawC_rep {P : Program} {bl : List (List Nat)} {Pr' : Addr → Prop} {c : AC} {v : Value} {L : List Nat} (h : Rep P w Pr bl c v L) (hL : ∀ g ∈ L, ∀ a, Pr' a → a.block ≠ g) : ∃ L', Rep P w Pr' bl (thawC c) v L' ∧ ∀ x, L'.count x ≤ L.count x := by
  unfold thawC
  split
  · split
    · rename_i hs
      cases h with
      | slNil => exact ⟨[], .slNil, fun x => by simp⟩
      | slOf hcs h1 hh hcap hmax hpos hsz htk _ _ =>
        rename_i g L0 cur
        exact ⟨[_], .slEx (L := []) (scal_reps hs hcs) h1 hh hcap hmax hpos hsz htk (hL _ List.mem_cons_self), fun x => by simp only [List.count_cons, List.count_nil]; omega⟩
    · exact ⟨[], .undef, fun x => by simp⟩
  · cases h; exact ⟨[], .bool, fun x => by simp⟩
  · cases h; exact ⟨[], .int, fun x => by simp⟩
  · cases h with | str q1 q2 => exact ⟨[], .str q1 q2, fun x => by simp⟩
  · exact ⟨[], .undef, fun x => by simp⟩
theorem thawC_reps {P : Program} {bl : List (List Nat)} {Pr' : Addr → Prop} : ∀ {cs : List AC} {vs : List Value} {L : List Nat}, Reps P w Pr bl cs vs L → (∀ g ∈ L, ∀ a, Pr' a → a.block ≠ g) → ∃ L', Reps P w Pr' bl (cs.map thawC) vs L' ∧ ∀ x, L'.count x ≤ L.count x := by
  intro cs
  induction cs with
  | nil => intro vs L h _; cases h; exact ⟨[], .nil, fun x => by simp⟩
  | cons c cs ih =>
    intro vs L h hL
    cases h with
    | cons h1 h2 =>
      obtain ⟨L1, r1, c1⟩ := thawC_rep h1 (fun g hg => hL g (List.mem_append_left _ hg))
      obtain ⟨L2, r2, c2⟩ := ih h2 (fun g hg => hL g (List.mem_append_right _ hg))
      exact ⟨L1 ++ L2, .cons r1 r2, fun x => by have := c1 x; have := c2 x; simp only [List.count_append]; omega⟩
theorem thawF_rep {P : Program} {bl : List (List Nat)} {Pr' : Addr → Prop} (hp : ∀ a, Pr' a → Pr a) : ∀ {f : List (List AC)} {gs L : List Nat}, RepF P w Pr bl f gs L → (∀ g ∈ L, ∀ a, Pr' a → a.block ≠ g) →
    ∃ L', RepF P w Pr' bl (f.map fun c => c.map thawC) gs L' ∧ ∀ x, L'.count x ≤ L.count x := by
  intro f
  induction f with
  | nil => intro gs L h _; obtain ⟨rfl, rfl⟩ := h; exact ⟨[], ⟨rfl, rfl⟩, fun x => by simp⟩
  | cons c f ih =>
    intro gs L h hL
    obtain ⟨g, gs', cur, T, L1, L2, rfl, hh, hc, h1, hpr, hF, rfl⟩ := h
    obtain ⟨M1, r1, c1⟩ := thawC_reps hc (fun g hg => hL g (List.mem_append_left _ hg))
    obtain ⟨M2, r2, c2⟩ := ih hF (fun g hg => hL g (List.mem_append_right _ hg))
    exact ⟨M1 ++ M2, ⟨g, gs', cur, T, M1, M2, rfl, hh, r1, h1, fun a ha => hpr a (hp a ha), r2, rfl⟩, fun x => by have := c1 x; have := c2 x; simp only [List.count_append]; omega⟩
/-- Nothing is lent from outside: the context of a function whose promises may be let go. -/
def FreeC (C : Cx) : Prop := C.F = [] ∧ C.bl0 = [] ∧ ∀ a, C.Pr0 a → a.block < C.w0.heap.size
theorem thaw_sound (hf : FreeC C) (hlen : st.K.length = 1) (hS : SR C st a w Pr b [] []) : SR C (thaw st) a w C.Pr0 b [] [] := by
  obtain ⟨hF, hb, hlt⟩ := hf
  obtain ⟨Le, Ll, Lx, Lk, h0⟩ := hS.dropLoc
  have hs := h0.since
  obtain ⟨f, hK⟩ : ∃ f, st.K = [f] := by
    match hk : st.K, hlen with
    | [f], _ => exact ⟨f, rfl⟩
  have h9 := h0.K
  rw [hK] at h9
  obtain ⟨b1, bl1, L1, L2, e1, hRF, ⟨_, e3⟩, e2⟩ := h9
  rw [e3, List.append_nil] at e2
  subst e2
  obtain ⟨rfl, rfl⟩ := List.cons.inj e1
  obtain ⟨L', hRF', hc⟩ := thawF_rep (Pr' := C.Pr0) (fun a ha => (hs.prot a ha).1) hRF (fun g hg a ha e => by
    have := List.count_pos_iff.2 hg
    rcases h0.new g (by omega) with h | h
    · rw [hF] at h; cases h
    · have := hlt a ha; omega)
  refine ⟨[], [], [], L', ⟨thawE_rep h0.env, rfl, .nil, ?_, fun x => ?_, fun x hx => ?_, ⟨h0.kE.1.sublist thawE_sub, fun j hj => h0.kE.2 j (thawE_sub.subset hj)⟩, ⟨by simp [thaw], by simp [thaw]⟩, fun p hp => h0.prlt p (hs.prot p hp).1,
    ⟨hs.os, hs.tape, hs.output, hs.size, hs.block, fun p hp => ⟨hp, (hs.prot p hp).2⟩, fun p hp => .inl hp⟩, h0.defers, h0.size⟩⟩
  · show RepK C.P w C.Pr0 (st.K.map fun f => f.map fun c => c.map thawC) (b :: C.bl0) L'
    rw [hK]
    exact ⟨_, _, L', [], rfl, hRF', ⟨hb, rfl⟩, by simp⟩
  · have := h0.cnt x; have := hc x
    simp only [List.count_nil] at *; omega
  · refine h0.new x ?_
    have := hc x
    simp only [List.count_nil] at *; omega

theorem giveC_reps {P : Program} {bl : List (List Nat)} : ∀ {cells cs : List AC} {zs cur : List Value} {Li Lv : List Nat}, givesOk cells cs zs → Reps P w Pr bl cells cur Li → Reps P w Pr bl cs zs Lv →
    ∃ L', Reps P w Pr bl (giveC cells cs) cur L' ∧ ∀ x, L'.count x ≤ Li.count x + Lv.count x := by
  intro cells
  induction cells with
  | nil =>
    intro cs zs cur Li Lv h h1 h2
    cases h1
    exact ⟨[], by simp only [giveC]; exact .nil, by simp⟩
  | cons c cells ih =>
    intro cs zs cur Li Lv h h1 h2
    cases h2 with
    | nil => exact absurd h (by cases c <;> simp only [givesOk, not_false_eq_true])
    | cons q1 q2 =>
      rename_i d cs z zs M1 M2
      cases h1 with
      | cons r1 r2 =>
        rename_i v vs N1 N2
        by_cases hc : ∃ t x, c = .als t none x none
        · obtain ⟨t, x, rfl⟩ := hc
          simp only [givesOk] at h
          obtain ⟨rfl, h⟩ := h
          obtain ⟨L', g1, g2⟩ := ih h r2 q2
          have ev : v = z := by generalize v = q at r1; cases r1; rfl
          subst ev
          refine ⟨M1 ++ L', by simp only [giveC]; exact .cons q1 g1, fun y => ?_⟩
          have := g2 y
          simp only [List.count_append]; omega
        · have e1 : givesOk (c :: cells) (d :: cs) (z :: zs) = givesOk cells cs zs := by
            cases c with
            | als t o x n => cases o with
              | none => cases n with
                | none => exact absurd ⟨t, x, rfl⟩ hc
                | some n => simp only [givesOk]
              | some o => simp only [givesOk]
            | _ => simp only [givesOk]
          have e2 : giveC (c :: cells) (d :: cs) = c :: giveC cells cs := by
            cases c with
            | als t o x n => cases o with
              | none => cases n with
                | none => exact absurd ⟨t, x, rfl⟩ hc
                | some n => simp only [giveC]
              | some o => simp only [giveC]
            | _ => simp only [giveC]
          rw [e1] at h
          obtain ⟨L', g1, g2⟩ := ih h r2 q2
          refine ⟨N1 ++ L', by rw [e2]; exact .cons r1 g1, fun y => ?_⟩
          have := g2 y
          simp only [List.count_append]; omega
/-- Behind a region: a box gets back what a slot holds of it. -/
theorem gb_sound {k : St → Prop} {d i : Nat} (h : gbE d i k st) (hS : SR C st a w Pr b [] []) : ∃ s', k s' ∧ SR C s' a w Pr b [] [] := by
  unfold gbE at h
  split at h
  · rename_i y cs cells hs hbox
    obtain ⟨zs, rfl, hok, hk⟩ := h
    obtain ⟨Le, Ll, Lx, Lk, h0⟩ := hS
    obtain ⟨x, Lv, Lr, hx, hrs, hc, hset⟩ := h0.slot hs (by simp)
    have ey := hrs.nam_val
    have hra := hrs.nam_inv
    rw [← ey] at hra
    have hra2 : Reps C.P w Pr (b :: C.bl0) cs zs Lv := by
      generalize hvv : zs.toArray = va at hra
      cases hra with
      | agg q1 q2 =>
        rename_i vals2
        have : vals2 = zs := by have := congrArg Array.toList hvv; simpa using this.symm
        rw [this] at q1
        exact q1
    obtain ⟨eK, kE, kL, hset⟩ := hset .undef
    obtain ⟨Le', Ll', g1, g2, g3⟩ := hset w Pr _ [] (fun c z M hM _ => hM) .undef
    have hgb : ∃ g, ((b :: C.bl0)[0]?).bind (·[i]?) = some g := by
      have hK := h0.K
      cases hk2 : st.K with
      | nil => rw [hk2] at hbox; simp [getBox] at hbox
      | cons f K =>
        rw [hk2] at hK hbox
        obtain ⟨b', bl', L1, L2, e, hF, _, _⟩ := hK
        cases e
        have hl := hF.length
        simp only [getBox, List.getElem?_cons_zero, Option.bind_some] at hbox ⊢
        have := (List.getElem?_eq_some_iff.1 hbox).1
        exact ⟨_, List.getElem?_eq_getElem (by omega)⟩
    obtain ⟨g, hgb⟩ := hgb
    obtain ⟨cur, T, Li, Lr2, hh, hcs, h1, hpr, hmem, hcnt, hset2⟩ := h0.K.set hbox hgb h0.box_cnt
    obtain ⟨L', q1, q2⟩ := giveC_reps hok hcs hra2
    obtain ⟨L2, hK2, c3⟩ := hset2 w Pr _ cur L' hh q1 h1 hpr (fun p hp => ⟨hp, rfl⟩) (fun x hx => ⟨rfl, fun p hp _ => hp⟩) (fun x hx _ => ⟨rfl, fun p hp _ => hp⟩)
    refine ⟨_, hk, Le', Ll', Lx, L2, { h0 with env := g1, loc := g2, K := hK2, kE := kE, kL := kL, cnt := fun x => ?_, new := fun x hx => h0.new x ?_ }⟩
    · have := h0.cnt x; have := hc x; have := g3 x; have := hcnt x; have := q2 x; have := c3 x
      simp only [List.count_nil] at *; omega
    · have := hc x; have := g3 x; have := hcnt x; have := q2 x; have := c3 x
      simp only [List.count_nil] at *; omega
  · exact h.elim
theorem wRegion_sound (hfree : C.fi.th = [] ∨ FreeC C) {k : St → Prop} {Q : Exit → Act → World → Prop} {id : Nat} {ops : Array Oper} {d : Bool} (hk : ∀ st' a' w' Pr' b', k st' → SR C st' a' w' Pr' b' [] [] → Q .normal a' w')
    (hd : ops.toList.all (opDst C.N) = true) (h : wRegion C.P C.fi id ops d k st) (hS : SR C st a w Pr b [] []) : (Code.region id ops d).wp C.P Q a w := by
  unfold wRegion at h
  split at h
  · rename_i hth
    rcases hfree with e | hfree
    · rw [e] at hth; cases hth
    · exact wRun_sound hk hd h.2 (thaw_sound hfree h.1 hS)
  split at h
  · obtain ⟨Le, Ll, Lx, Lk, h0⟩ := hS.dropLoc
    have hcnt := h0.cnt
    have hnd : ∀ x, (b :: C.bl0).flatten.count x ≤ 1 := fun x => by have := hcnt x; omega
    have hlen := h0.K.lens
    have hz : ∀ x, ((([] : List Nat) :: C.bl0.map fun _ => []).flatten).count x = 0 := fun x => by
      have e := flat_nil (bl := b :: C.bl0)
      simp only [List.map_cons] at e
      rw [e]; rfl
    have hp1 : ∀ p, Pr p → Pr p ∨ p.block ∈ Le ∨ p.block ∈ (b :: C.bl0).flatten ∨ p.block ∈ Lk := fun p hp => .inl hp
    obtain ⟨env1, h, hE1, hkeys, hname⟩ := nameX_sound (Pr1 := fun p => Pr p ∨ p.block ∈ Le ∨ p.block ∈ (b :: C.bl0).flatten ∨ p.block ∈ Lk) (bl' := [] :: C.bl0.map fun _ => []) h0.K hnd hp1
      (fun g hg a ha => hg.elim (fun h => .inr (.inr (.inl (by rw [ha]; exact h)))) (fun h => .inr (.inr (.inr (by rw [ha]; exact h))))) h0.env (fun g hg q hq => .inr (.inl (by rw [hq]; exact hg))) h
    have ht1 : Tab w (fun p => Pr p ∨ p.block ∈ Le ∨ p.block ∈ (b :: C.bl0).flatten ∨ p.block ∈ Lk) := (C.tab.kept h0.since.prot).kept fun a h => ⟨.inl h, rfl⟩
    have hS1 : SR { C with tab := ht1, fi := { C.fi with es := false, bw := [] }, w0 := w, Pr0 := fun p => Pr p ∨ p.block ∈ Le ∨ p.block ∈ (b :: C.bl0).flatten ∨ p.block ∈ Lk, F := [], bl0 := C.bl0.map fun _ => [] } { env := env1, loc := [], K := noK st.K } a w
        (fun p => Pr p ∨ p.block ∈ Le ∨ p.block ∈ (b :: C.bl0).flatten ∨ p.block ∈ Lk) [] [] [] := by
      refine ⟨[], [], [], [], ⟨hE1, rfl, .nil, ?_, fun x => ?_, fun x hx => ?_, ⟨by rw [hkeys]; exact h0.kE.1, fun j hj => h0.kE.2 j (by rw [← hkeys]; exact hj)⟩, ⟨by simp, by simp⟩, fun p hp => ?_,
        ⟨rfl, rfl, rfl, Nat.le_refl _, fun _ _ _ => rfl, fun p hp => ⟨hp, rfl⟩, fun p hp => .inl hp⟩, h0.defers, h0.size⟩⟩
      · have := RepK.none (P := C.P) (w := w) (Pr := fun p => Pr p ∨ p.block ∈ Le ∨ p.block ∈ (b :: C.bl0).flatten ∨ p.block ∈ Lk) (K := st.K)
        rw [hlen] at this
        exact this
      · show _ + _ + _ + _ + (([] : List Nat) :: C.bl0.map fun _ => []).flatten.count x ≤ 1
        rw [hz]; simp
      · have hx' : 0 < ([] : List Nat).count x + ([] : List Nat).count x + ([] : List Nat).count x + ([] : List Nat).count x + (([] : List Nat) :: C.bl0.map fun _ => []).flatten.count x := hx
        rw [hz] at hx'; simp at hx'
      · rcases hp with hp | hp | hp | hp
        · exact h0.prlt p hp
        · exact h0.env.own_lt _ hp
        · exact h0.K.box_lt _ hp
        · exact h0.K.own_lt _ hp
    refine wRun_sound (C := { C with tab := ht1, fi := { C.fi with es := false, bw := [] }, w0 := w, Pr0 := fun p => Pr p ∨ p.block ∈ Le ∨ p.block ∈ (b :: C.bl0).flatten ∨ p.block ∈ Lk, F := [], bl0 := C.bl0.map fun _ => [] }) (fun s a' w' Pr' b' hks hS' => ?_) hd h hS1
    obtain ⟨hK', hks⟩ := hks
    obtain ⟨Le', Ll', Lx', Lk', h1⟩ := hS'
    have hs := h1.since
    have hs0 := h0.since
    have hnewLe : ∀ x ∈ Le', w.heap.size ≤ x := by
      intro x hx
      have := List.count_pos_iff.2 hx
      rcases h1.new x (by omega) with h | h
      · cases h
      · exact h
    have hprp : ∀ p, Pr p → w'.cell? p = w.cell? p := fun p hp => (hs.prot p (.inl hp)).2
    have hkept : ∀ g, g < w.heap.size → Kept w Pr w' Pr g := fun g hg => ⟨hs.block g hg (by simp), fun p hp _ => hp⟩
    have hE1' : RepE C.P w' Pr' (b' :: C.bl0.map fun _ => []) a'.tmps s.env Le' := h1.env
    have hb' : b' = [] ∧ Lk' = [] := by
      have h9 := h1.K
      rw [hK'] at h9
      obtain ⟨e1, e2⟩ := RepK.empty h9
      rw [hlen] at e1
      exact ⟨(List.cons.inj e1).1, e2⟩
    obtain ⟨rfl, rfl⟩ := hb'
    obtain ⟨e, L2, hke, hE2, hkeys2, hc2⟩ := backE_sound (w := w) (w' := w') (Pr := Pr) (Pr' := Pr') (bl := b :: C.bl0) (bl' := [] :: C.bl0.map fun _ => []) (tmps := a.tmps) (tmps' := a'.tmps) (Lall := Le) hname
      (fun c z M hM hin => hM.kept (fun p hp => ⟨hp, hprp p hp⟩) fun g hg => hkept g (h0.env.own_lt g (hin g hg)))
      h1.kE.1 hE1' (fun g hg p hp e => by have := h0.prlt p hp; have := hnewLe g hg; omega) (fun j _ => rfl) h0.env (fun g hg => hg) hks
    refine hk _ a' w' Pr b hke ⟨L2, [], [], Lk, ⟨hE2, keepS_rep (bl' := [] :: C.bl0.map fun _ => []) h1.loc, .nil, ?_, fun x => ?_, fun x hx => ?_, ⟨by rw [hkeys2]; exact h1.kE.1, fun j hj => h1.kE.2 j (by rw [← hkeys2]; exact hj)⟩, ⟨h1.kL.1.sublist keepS_sub, fun j hj => h1.kL.2 j (keepS_sub.subset hj)⟩, fun p hp => ?_,
      ⟨hs.os.trans hs0.os, hs.tape.trans hs0.tape, hs.output.trans hs0.output, Nat.le_trans hs0.size hs.size, fun x hx hxF => ?_, fun p hp => ?_, hs0.newPr⟩, h1.defers, h1.size⟩⟩
    · exact h0.K.kept (fun p hp => ⟨hp, hprp p hp⟩) (fun g hg => hkept g (h0.K.own_lt g hg)) (fun g hg => hkept g (h0.K.box_lt g hg))
    · have := hc2 x; have h3 := h0.cnt x; have h4 := h1.cnt x
      simp only [List.count_nil] at *
      by_cases hx : x < w.heap.size
      · have : Le'.count x = 0 := List.count_eq_zero.2 fun hm => by have := hnewLe x hm; omega
        omega
      · have : Le.count x = 0 := List.count_eq_zero.2 fun hm => hx (h0.env.own_lt x hm)
        have : Lk.count x = 0 := List.count_eq_zero.2 fun hm => hx (h0.K.own_lt x hm)
        have : (b :: C.bl0).flatten.count x = 0 := List.count_eq_zero.2 fun hm => hx (h0.K.box_lt x hm)
        omega
    · have := hc2 x
      simp only [List.count_nil] at *
      by_cases hx0 : 0 < Le.count x + Lk.count x + (b :: C.bl0).flatten.count x
      · exact h0.new x (by omega)
      · right
        have := hnewLe x (List.count_pos_iff.1 (by omega))
        have := hs0.size; omega
    · have := h0.prlt p hp; have := hs.size
      show p.block < w'.heap.size
      have h9 : w.heap.size ≤ w'.heap.size := hs.size
      omega
    · exact (hs.block x (by have := hs0.size; show x < w.heap.size; omega) (by simp)).trans (hs0.block x hx hxF)
    · have h1' := hs0.prot p hp
      exact ⟨h1'.1, (hprp p h1'.1).trans h1'.2⟩
  · split at h
    · obtain ⟨Le, Ll, Lx, Lk, h0⟩ := hS.dropLoc
      obtain ⟨env', h, hE, hkeys⟩ := nameE_sound h0.env h
      refine wRun_sound (k := gbK C.fi id k) (fun st' a' w' Pr' b' hks hS' => ?_) hd h ⟨Le, Ll, Lx, Lk, { h0 with env := hE, kE := ⟨by rw [hkeys]; exact h0.kE.1, fun j hj => h0.kE.2 j (by rw [← hkeys]; exact hj)⟩ }⟩
      cases hl : C.fi.gb.lookup id with
      | none =>
        simp only [gbK, hl] at hks
        exact hk st' a' w' Pr' b' hks hS'
      | some p =>
        obtain ⟨pd, pi⟩ := p
        simp only [gbK, hl] at hks
        obtain ⟨s', hk', hS2⟩ := gb_sound hks hS'
        exact hk s' a' w' Pr' b' hk' hS2
    · exact wRun_sound hk hd h hS.dropLoc

theorem SR.frzOne (h : SR C st a w Pr b xs vs) {k n : Nat} {e : TypeId} {cs : List AC} {v : AC} (hk : st.get k = v) (hv : v = .sl (.ex e) n cs ∨ ∃ y, v = .nam y (.sl (.ex e) n cs)) :
    ∃ Pr', SR C (st.setAt k (.sl (.of e) n cs)) a w Pr' b xs vs := by
  obtain ⟨Le, Ll, Lx, Lk, h⟩ := h
  obtain ⟨x, Lv, Lr, hx, hrv, hc, hset⟩ := h.slot hk (by rcases hv with rfl | ⟨y, rfl⟩ <;> simp)
  have hr : Rep C.P w Pr (b :: C.bl0) (.sl (.ex e) n cs) x Lv := by
    rcases hv with rfl | ⟨y, rfl⟩
    · exact hrv
    · cases hrv; assumption
  obtain ⟨eK, kE, kL, hset⟩ := hset (.sl (.of e) n cs)
  generalize hBL : b :: C.bl0 = BL at *
  cases hr with
  | slNil =>
    obtain ⟨Le', Ll', g1, g2, g3⟩ := hset w Pr BL [] (fun c z M hM _ => hM) .slNil
    subst hBL
    refine ⟨Pr, Le', Ll', Lx, Lk, { h with env := g1, loc := g2, K := by rw [eK]; exact h.K, cnt := fun y => ?_, new := fun y hy => h.new y ?_, kE := kE, kL := kL }⟩
    · have := h.cnt y; have := g3 y; have := hc y; simp only [List.count_nil] at *; omega
    · have := g3 y; have := hc y; simp only [List.count_nil] at *; omega
  | slEx h1 h2 h3 h4 h5 h6 h7 h8 h9 =>
    rename_i vals g cap L cur _
    subst hBL
    have hg : ∀ x, 0 < L.count x + Lr.count x + Lx.count x + Lk.count x + (b :: C.bl0).flatten.count x → x ≠ g := by
      intro x hx e2
      subst e2
      have h1 := h.cnt x
      have h2 := hc x
      rw [List.count_cons_self] at h2
      omega
    have hgc := h.new g (by have := hc g; rw [List.count_cons_self] at this; omega)
    let Pr2 : Addr → Prop := fun a => Pr a ∨ ∃ j, j < n * C.P.cellsOf e ∧ a = ⟨g, j, none⟩
    have hp : ∀ p, Pr p → Pr2 p ∧ w.cell? p = w.cell? p := fun p ha => ⟨.inl ha, rfl⟩
    have hkept : ∀ x, 0 < L.count x + Lr.count x + Lx.count x + Lk.count x + (b :: C.bl0).flatten.count x → Kept w Pr w Pr2 x := by
      intro x hx
      refine ⟨rfl, ?_⟩
      intro p ha hax
      rcases ha with ha | ⟨j, hj, rfl⟩
      · exact ha
      · exact absurd hax.symm (hg x hx)
    have hgs : g < w.heap.size := (Array.getElem?_eq_some_iff.1 h3).1
    have hpos : ∀ {l : List Nat} {x : Nat}, x ∈ l → 0 < l.count x := fun hm => List.count_pos_iff.2 hm
    obtain ⟨Le', Ll', g1, g2, g3⟩ := hset w Pr2 (b :: C.bl0) (g :: L) (fun c z M hM hin => hM.kept hp fun x hx => hkept x (by have := hpos (hin x hx); omega))
      (.slOf (h1.kept hp fun x hx => hkept x (by have := hpos hx; omega)) h2 h3 h4 h5 h6 h7 h8
        (fun p ha hag => by
          rcases ha with ha | ⟨j, hj, rfl⟩
          · exact absurd hag (h9 p ha)
          · exact hj) (fun j hj => .inr ⟨j, hj, rfl⟩))
    refine ⟨Pr2, Le', Ll', Lx, Lk, { h with
      env := g1, loc := g2
      reg := h.reg.kept hp fun x hx => hkept x (by have := hpos hx; omega)
      K := by rw [eK]; exact h.K.kept hp (fun x hx => hkept x (by have := hpos hx; omega)) (fun x hx => hkept x (by have := hpos hx; omega))
      cnt := fun y => ?_, new := fun y hy => h.new y ?_, kE := kE, kL := kL
      prlt := fun p hp2 => ?_
      since := ⟨h.since.os, h.since.tape, h.since.output, h.since.size, h.since.block, fun p hp0 => ⟨.inl (h.since.prot p hp0).1, (h.since.prot p hp0).2⟩, fun p hp2 => ?_⟩ }⟩
    · have := h.cnt y; have := g3 y; have := hc y; omega
    · have := g3 y; have := hc y; omega
    · rcases hp2 with hp2 | ⟨j, hj, rfl⟩
      · exact h.prlt p hp2
      · exact hgs
    · rcases hp2 with hp2 | ⟨j, hj, rfl⟩
      · exact h.since.newPr p hp2
      · rcases hgc with h0 | h0
        · exact .inr (.inl h0)
        · exact .inr (.inr h0)
theorem SR.frz (h : SR C st a w Pr b xs vs) (z : Option Nat) : ∃ Pr', SR C (st.frz z) a w Pr' b xs vs := by
  cases z with
  | none => exact ⟨Pr, h⟩
  | some k =>
    simp only [St.frz]
    split
    · rename_i hk; exact h.frzOne hk (.inr ⟨_, rfl⟩)
    · rename_i hk; exact h.frzOne hk (.inl rfl)
    · exact ⟨Pr, h⟩

theorem wC_sound (hfree : C.fi.th = [] ∨ FreeC C) (c : Code) : ∀ (Q : Exit → St → Prop) (st : St) (a : Act) (w : World) (Pr : Addr → Prop) (b : List Nat), dstOk C.N c = true → wC C.P C.fi c Q st → SR C st a w Pr b [] [] → c.wp C.P (CQ C Q) a w := by
  induction c with
  | skip => intro Q st a w Pr b _ h hS; exact wp_skip ⟨st, Pr, b, h, hS⟩
  | region id ops d =>
    intro Q st a w Pr b hd h hS
    exact wRegion_sound hfree (k := Q .normal) (fun st' a' w' Pr' b' hk hS => ⟨st', Pr', b', hk, hS⟩) hd h hS
  | seq x y ihx ihy =>
    intro Q st a w Pr b hd h hS
    simp only [dstOk, Bool.and_eq_true] at hd
    refine wp_seq (wp_mono (ihx _ _ _ _ _ _ hd.1 h hS) ?_)
    rintro e a' w' ⟨st', Pr', b', hq, hS'⟩
    cases e with
    | normal => exact ihy _ _ _ _ _ _ hd.2 hq hS'
    | exit id => exact ⟨st', Pr', b', hq, hS'⟩
    | goto l => exact ⟨st', Pr', b', hq, hS'⟩
    | ret => exact ⟨st', Pr', b', hq, hS'⟩
    | panic ch => exact ⟨st', Pr', b', hq, hS'⟩
    | outgrown => exact ⟨st', Pr', b', hq, hS'⟩
  | cond c x y ihx ihy =>
    intro Q st a w Pr b hd h hS
    simp only [dstOk, Bool.and_eq_true] at hd
    unfold wC at h
    split at h
    · rename_i v hv
      have hr := hS.ev c
      rw [hv] at hr
      simp only [share] at hr
      generalize hz : a.eval c = z at hr
      cases hr
      cases v with
      | true => exact wp_cond_true hz (ihx _ _ _ _ _ _ hd.1 (h.1 rfl) hS)
      | false => exact wp_cond_false hz (ihy _ _ _ _ _ _ hd.2 (h.2 rfl) hS)
    · exact h.elim
  | block id c ih =>
    intro Q st a w Pr b hd h hS
    refine wp_block (wp_mono (ih _ _ _ _ _ _ hd h hS) ?_)
    rintro e a' w' ⟨st', Pr', b', hq, hS'⟩
    cases e with
    | normal => exact ⟨st', Pr', b', hq, hS'⟩
    | exit id' =>
      simp only [Exit.inBlock]
      simp only [blockK] at hq
      split
      · rename_i e; rw [if_pos e] at hq; exact ⟨st', Pr', b', hq, hS'⟩
      · rename_i e; rw [if_neg e] at hq; exact ⟨st', Pr', b', hq, hS'⟩
    | goto l => exact ⟨st', Pr', b', hq, hS'⟩
    | ret => exact ⟨st', Pr', b', hq, hS'⟩
    | panic ch => exact ⟨st', Pr', b', hq, hS'⟩
    | outgrown => exact ⟨st', Pr', b', hq, hS'⟩
  | loop c ih =>
    intro Q st a w Pr b hd h hS
    obtain ⟨I, n, s0, z, hle, hI, hround⟩ := h
    obtain ⟨Pr1, hS⟩ := hS.frz z
    refine wp_loop_ghost (fun n a w => ∃ st Pr b, I n st ∧ SR C st a w Pr b [] []) n ⟨s0, Pr1, b, hI, hS.le hle⟩ ?_
    rintro n a w ⟨s, Pr, b, hI, hS⟩
    refine wp_mono (ih _ _ _ _ _ _ hd (hround n s hI) hS) ?_
    rintro e a' w' ⟨st', Pr', b', hq, hS'⟩
    cases e with
    | normal =>
      obtain ⟨n', hlt, s2, hle2, hI2⟩ := hq
      exact ⟨n', hlt, s2, Pr', _, hI2, (hS'.kill _ rfl).le hle2⟩
    | exit id => exact ⟨st', Pr', b', hq, hS'⟩
    | goto l => exact ⟨st', Pr', b', hq, hS'⟩
    | ret => exact ⟨st', Pr', b', hq, hS'⟩
    | panic ch => exact ⟨st', Pr', b', hq, hS'⟩
    | outgrown => exact ⟨st', Pr', b', hq, hS'⟩
  | exit id => intro Q st a w Pr b _ h hS; exact wp_exit ⟨st, Pr, b, h, hS⟩
  | ret => intro Q st a w Pr b _ h hS; exact wp_ret ⟨st, Pr, b, h, hS⟩
  | rangeFunc f ps x y _ _ => intro Q st a w Pr b _ h hS; exact h.elim
  | scope c _ => intro Q st a w Pr b _ h hS; exact h.elim
  | label l => intro Q st a w Pr b _ h hS; exact h.elim
  | goto l => intro Q st a w Pr b _ h hS; exact h.elim
  | refuse s => intro Q st a w Pr b _ h hS; exact h.elim

/-- What the model does for one result. -/
def resRun (tmps : Array Value) : ResultVar → Sem Value
  | .tmp t => pure (tmps.getD t undef)
  | .cell a t => do loadVar t (← asAddr (tmps.getD a undef))

theorem setBox_zero (f : List (List AC)) (K : List (List (List AC))) (i : Nat) (c : List AC) : setBox (f :: K) 0 i c = (f.set i c) :: K := by simp [setBox]

theorem SR.res (h : SR C st a w Pr b xs vs) {x : ResultVar} {v : AC} {st' : St} (hx : resStep C.P st x = some (v, st')) :
    ∃ val, (resRun a.tmps x).run C.P w = .ok val w ∧ SR C st' a w Pr b (v :: xs) (val :: vs) ∧ st'.K.tail = st.K.tail := by
  cases x with
  | tmp t =>
    simp only [resStep, Option.some.injEq, Prod.mk.injEq] at hx
    obtain ⟨rfl, rfl⟩ := hx
    refine ⟨_, rfl, h.take t, ?_⟩
    unfold St.weak; split
    · rfl
    · split <;> rfl
  | cell p t =>
    simp only [resStep] at hx
    split at hx
    · cases hx
    · rename_i i td hp hbad
      split at hx
      · rename_i cells hbox
        split at hx
        · rename_i hlen
          obtain ⟨hlen, hpos⟩ := hlen
          simp only [Option.some.injEq, Prod.mk.injEq] at hx
          obtain ⟨rfl, rfl⟩ := hx
          have hgood : goodTy C.P t := by
            unfold goodTy
            split
            · rename_i e; exact absurd e (by simpa using hbad)
            · trivial
          obtain ⟨Le, Ll, Lx, Lk, h0⟩ := h
          obtain ⟨L, hr, hLc⟩ := h0.get p
          rw [hp] at hr
          generalize hz : a.tmps.getD p undef = z at hr
          cases hr with
          | ptr hgb =>
            rename_i g
            obtain ⟨cur, T, Li, Lr, hh, hcs, h1, hpr, hmem, hcnt, hset⟩ := h0.K.set hbox hgb h0.box_cnt
            simp only [List.drop_zero] at hcs hset
            have hl2 := hcs.length
            have hcell : ∀ j v, cur.toList[j]? = some v → w.cell? ((⟨g, 0, none⟩ : Addr).add j) = some v := by
              intro j v hj
              rw [Addr.add_lit, Nat.zero_add, cell_of_row w _ _ _ _ _ hh]
              simpa using hj
            obtain ⟨val, hrun, hrep⟩ := run_loadVar_of (w := w) hgood hpos (by rw [← hl2]; exact hlen) hcell
            obtain ⟨M, hrepv, hM⟩ := hrep hcs h1
            obtain ⟨L2, hK2, c3⟩ := hset w Pr (shareL cells) cur [] hh hcs.share h1 hpr (fun p hp => ⟨hp, rfl⟩) (fun x hx => ⟨rfl, fun p hp _ => hp⟩) (fun x hx _ => ⟨rfl, fun p hp _ => hp⟩)
            refine ⟨val, ?_, ⟨Le, Ll, M ++ Lx, L2, { h0 with reg := .cons hrepv h0.reg, K := hK2, cnt := fun x => ?_, new := fun x hx => h0.new x ?_ }⟩, ?_⟩
            · simp only [resRun, Sem.run_bind, hz, asAddr, Sem.run_pure, Result.andThen_ok, hrun]
            · have := h0.cnt x; have := c3 x; have := hM x; have := hcnt x
              simp only [List.count_append, List.count_nil] at *; omega
            · have := c3 x; have := hM x; have := hcnt x
              simp only [List.count_append, List.count_nil] at *; omega
            · obtain ⟨f, K0, hf⟩ := h0.K.cons_inv
              rw [hf, setBox_zero]; rfl
        · cases hx
      · cases hx
    · cases hx

theorem SR.ress : ∀ {rs : List ResultVar} {st st' : St} {xs : List AC} {vs : List Value} {us : List AC}, SR C st a w Pr b xs vs → resVs C.P st rs = some (us, st') →
    ∃ vals : List Value, (rs.mapM (resRun a.tmps)).run C.P w = .ok vals w ∧ us.length = vals.length ∧ SR C st' a w Pr b (us.reverse ++ xs) (vals.reverse ++ vs) ∧ st'.K.tail = st.K.tail := by
  intro rs
  induction rs with
  | nil =>
    intro st st' xs vs us h hr
    simp only [resVs, Option.some.injEq, Prod.mk.injEq] at hr
    obtain ⟨rfl, rfl⟩ := hr
    exact ⟨[], by simp, rfl, by simpa using h, rfl⟩
  | cons r rs ih =>
    intro st st' xs vs us h hr
    simp only [resVs] at hr
    split at hr
    · rename_i v st1 h1
      split at hr
      · rename_i us' st2 h2
        simp only [Option.some.injEq, Prod.mk.injEq] at hr
        obtain ⟨rfl, rfl⟩ := hr
        obtain ⟨val, e1, hS1, k1⟩ := h.res h1
        obtain ⟨vals, e2, hl, hS2, k2⟩ := ih hS1 h2
        refine ⟨val :: vals, ?_, by simp [hl], by simpa [List.append_assoc] using hS2, k2.trans k1⟩
        simp only [List.mapM_cons, Sem.run_bind, e1, Result.andThen_ok, e2, Sem.run_pure]
      · cases hr
    · cases hr

theorem low1_rep {P : Program} {b : List Nat} {bl : List (List Nat)} {c c' : AC} {v : Value} {L : List Nat} (e : low1 c = some c') (h : Rep P w Pr (b :: bl) c v L) : Rep P w Pr bl c' v L := by
  unfold low1 at e
  split at e
  · cases h with
    | agg h1 h2 =>
      rw [Option.map_eq_some_iff] at e
      obtain ⟨cs', e1, rfl⟩ := e
      exact .agg (lowCs_rep (bs := [b]) rfl e1 h1) h2
  · cases h with
    | nam h =>
      cases h with
      | agg h1 h2 =>
        rw [Option.map_eq_some_iff] at e
        obtain ⟨cs', e1, rfl⟩ := e
        exact .agg (lowCs_rep (bs := [b]) rfl e1 h1) h2
  · exact lowC_rep (bs := [b]) rfl e h

theorem lows_rep {P : Program} {b : List Nat} {bl : List (List Nat)} : ∀ {cs cs' : List AC} {vals : List Value} {L : List Nat}, lows cs = some cs' → Reps P w Pr (b :: bl) cs vals L → Reps P w Pr bl cs' vals L := by
  intro cs
  induction cs with
  | nil => intro cs' vals L e h; cases h; simp only [lows, Option.some.injEq] at e; subst e; exact .nil
  | cons c cs ih =>
    intro cs' vals L e h
    simp only [lows] at e
    split at e
    · rename_i v vs h1 h2
      simp only [Option.some.injEq] at e; subst e
      cases h with
      | cons g1 g2 => exact .cons (low1_rep h1 g1) (ih h2 g2)
    · cases e

theorem leL_rep {P : Program} {bl : List (List Nat)} : ∀ {cs ds : List AC} {vals : List Value} {L : List Nat}, AC.leL cs ds → Reps P w Pr bl cs vals L → ∃ L', Reps P w Pr bl ds vals L' ∧ ∀ x, L'.count x ≤ L.count x := by
  intro cs
  induction cs with
  | nil =>
    intro ds vals L e h
    cases ds with
    | nil => exact ⟨L, h, fun x => Nat.le_refl _⟩
    | cons d ds => exact e.elim
  | cons c cs ih =>
    intro ds vals L e h
    cases ds with
    | nil => exact e.elim
    | cons d ds =>
      cases h with
      | cons g1 g2 =>
        obtain ⟨L1, r1, c1⟩ := g1.le e.1
        obtain ⟨L2, r2, c2⟩ := ih e.2 g2
        exact ⟨L1 ++ L2, .cons r1 r2, fun x => by have := c1 x; have := c2 x; simp only [List.count_append]; omega⟩

theorem argEnv_rep {P : Program} {bl bl' : List (List Nat)} (hm : Moves bl bl' (liftP 1)) : ∀ {args : List AC} {vals : List Value} {La : List Nat} (k : Nat) (tmps : Array Value), Reps P w Pr bl args vals La → (∀ j v, vals[j]? = some v → tmps[k + j]? = some v) →
    ∃ L, RepE P w Pr bl' tmps (argEnv k args) L ∧ ∀ x, L.count x ≤ La.count x := by
  intro args
  induction args with
  | nil => intro vals La k tmps h _; exact ⟨[], rfl, fun x => by simp⟩
  | cons c cs ih =>
    intro vals La k tmps h ht
    cases h with
    | cons h1 h2 =>
      rename_i v vs L1 L2
      obtain ⟨M1, r1, c1⟩ := h1.mapV hm
      obtain ⟨M2, r2, c2⟩ := ih (k + 1) tmps h2 (fun j v hj => by have := ht (j + 1) v (by simpa using hj); rwa [show k + (j + 1) = k + 1 + j by omega] at this)
      exact ⟨M1 ++ M2, ⟨M1, M2, v, by simpa using ht 0 v rfl, r1, r2, rfl⟩, fun x => by have := c1 x; have := c2 x; simp only [List.count_append]; omega⟩

theorem argEnv_keys : ∀ (args : List AC) (k j : Nat), j ∈ (argEnv k args).map (·.1) → k ≤ j ∧ j < k + args.length := by
  intro args
  induction args with
  | nil => intro k j h; simp [argEnv] at h
  | cons c cs ih =>
    intro k j h
    simp only [argEnv, List.map_cons, List.mem_cons] at h
    rcases h with rfl | h
    · simp
    · have := ih (k + 1) j h
      simp only [List.length_cons]; omega

theorem argEnv_nodup : ∀ (args : List AC) (k : Nat), ((argEnv k args).map (·.1)).Nodup := by
  intro args
  induction args with
  | nil => intro k; simp [argEnv]
  | cons c cs ih =>
    intro k
    simp only [argEnv, List.map_cons, List.nodup_cons]
    refine ⟨fun h => ?_, ih (k + 1)⟩
    have := argEnv_keys cs (k + 1) k h
    omega
end

theorem results_run {P : Program} {fn : Func} {tmps : Array Value} {vals : List Value} {w : World} (h : (fn.results.toList.mapM (resRun tmps)).run P w = .ok vals w) :
    (results fn tmps).run P w = .ok (if h : vals.toArray.size = 1 then vals.toArray[0] else .tuple vals.toArray) w := by
  unfold results
  rw [Array.mapM_eq_mapM_toList]
  simp only [Sem.run_bind, Sem.run_map]
  change (((List.mapM (resRun tmps) fn.results.toList).run P w).andThen _).andThen _ = _
  rw [h]
  rfl

theorem noOwn_nil {P : Program} {w : World} {Pr : Addr → Prop} {bl : List (List Nat)} : ∀ {cs : List AC} {vs : List Value} {L : List Nat}, cs.all noOwn = true → Reps P w Pr bl cs vs L → L = [] := by
  intro cs
  induction cs with
  | nil => intro vs L _ h; cases h; rfl
  | cons c cs ih =>
    intro vs L hs h
    simp only [List.all_cons, Bool.and_eq_true] at hs
    cases h with
    | cons h1 h2 =>
      have e := ih hs.2 h2
      subst e
      have h0 := hs.1
      unfold noOwn at h0
      split at h0
      · cases h1 <;> rfl
      · cases h1; rfl
      · cases h1; rfl
      · cases h1; rfl
      · cases h0

/-- A function's contract by its body. -/
theorem ct_body {P : Program} {f : FuncId} {fn : Func} {c : Code} {args : List AC} {K K' : List (List (List AC))} {r : AC} (fi : FI) (hf : P.funcs[f]? = some fn) (hb : fn.body = some c)
    (hname : (fn.name == "runtime.NumGoroutine") = false) (hd : dstOk fn.ntmps c = true) (hl : args.length ≤ fi.n0 ∧ args.length ≤ fn.ntmps)
    (h : wC P fi c (retQ P fn.results.toList r K') { env := argEnv 0 args, loc := [], K := [] :: K }) (ht : fi.th = [] ∨ (K = [] ∧ args.all noOwn = true)) : Ct P f args K r K' := by
  refine ⟨⟨fn, hf, by rw [hb]; rfl, hname⟩, ?_⟩
  intro w Pr bl vals La Lk hargs hK hcnt hprlt htab
  have hvl := hargs.length
  let C : Cx := ⟨P, fn.ntmps, fi, w, Pr, La ++ Lk ++ bl.flatten, bl, htab⟩
  let tmps : Array Value := vals.toArray ++ Array.replicate (fn.ntmps - vals.toArray.size) undef
  have htmps : ∀ j v, vals[j]? = some v → tmps[0 + j]? = some v := by
    intro j v hj
    have hjl := (List.getElem?_eq_some_iff.1 hj).1
    show (vals.toArray ++ Array.replicate (fn.ntmps - vals.toArray.size) undef)[0 + j]? = some v
    rw [Nat.zero_add, Array.getElem?_append_left (by simpa using hjl)]
    simpa using hj
  obtain ⟨Le, hE, hEc⟩ := argEnv_rep (moves_lift 1 [[]] bl rfl) 0 tmps hargs htmps
  have hS : SR C { env := argEnv 0 args, loc := [], K := [] :: K } { tmps := tmps, defers := [] } w Pr [] [] [] := by
    refine ⟨Le, [], [], Lk, ⟨hE, rfl, .nil, ⟨[], bl, [], Lk, rfl, ⟨rfl, rfl⟩, hK, rfl⟩, fun x => ?_, fun x hx => ?_, ⟨argEnv_nodup _ _, fun k hk => ?_⟩, by simp, hprlt, ⟨rfl, rfl, rfl, Nat.le_refl _, fun _ _ _ => rfl, fun p hp => ⟨hp, rfl⟩, fun p hp => .inl hp⟩, rfl, ?_⟩⟩
    · have := hcnt x; have := hEc x
      show Le.count x + ([] : List Nat).count x + ([] : List Nat).count x + Lk.count x + ([] :: bl).flatten.count x ≤ 1
      simp only [List.count_append, List.flatten_cons, List.count_nil] at *; omega
    · left
      show x ∈ La ++ Lk ++ bl.flatten
      have hx' : 0 < Le.count x + ([] : List Nat).count x + ([] : List Nat).count x + Lk.count x + ([] :: bl).flatten.count x := hx
      refine List.count_pos_iff.1 ?_
      have := hEc x
      simp only [List.count_append, List.flatten_cons, List.count_nil] at *; omega
    · have := argEnv_keys args 0 k hk
      show fi.isVar k = true
      unfold FI.isVar
      rw [if_pos (by omega)]
    · show (vals.toArray ++ Array.replicate (fn.ntmps - vals.toArray.size) undef).size = fn.ntmps
      simp only [Array.size_append, List.size_toArray, Array.size_replicate]; omega
  have hfree : C.fi.th = [] ∨ FreeC C := by
    rcases ht with ht | ⟨rfl, ht⟩
    · exact .inl ht
    · obtain ⟨rfl, rfl⟩ := hK
      have := noOwn_nil ht hargs
      subst this
      exact .inr ⟨rfl, rfl, hprlt⟩
  have hw := wC_sound (C := C) hfree c _ _ _ _ _ _ hd h hS
  refine calls_of_wp hf hb (wp_mono hw ?_)
  rintro e a' w' ⟨st', Pr', b', hq, hS'⟩
  have key : retOk P fn.results.toList st' r K' → a'.defers = [] ∧ ∃ v, (results fn a'.tmps).run P w' = .ok v w' ∧ ∃ v' Pr' Lr Lk' bl', (.returned v : Ending) = .returned v' ∧ BlExt w.heap.size bl bl' ∧ Rep P w' Pr' bl' r v' Lr ∧ RepK P w' Pr' K' bl' Lk' ∧
      (∀ x, (Lr ++ Lk' ++ bl'.flatten).count x ≤ 1) ∧ (∀ x ∈ Lr ++ Lk', x ∈ La ++ Lk ∨ w.heap.size ≤ x) ∧ (∀ a, Pr' a → a.block < w'.heap.size) ∧ Since w Pr (La ++ Lk ++ bl.flatten) w' Pr' := by
    intro hret
    unfold retOk at hret
    split at hret
    · rename_i us st2 hres
      obtain ⟨hKt, hret⟩ := hret
      obtain ⟨vals', hrun, hul, hS2, hk2⟩ := hS'.ress hres
      have hdef : a'.defers = [] := by obtain ⟨_, _, _, _, h0⟩ := hS'; exact h0.defers
      refine ⟨hdef, _, results_run hrun, ?_⟩
      obtain ⟨Lu, Le2, Ll2, Lx2, Lk2, hu1, h0, hc, hn1⟩ := hS2.out hul
      obtain ⟨f0, K0, hf0⟩ := h0.K.cons_inv
      have hKr := h0.K
      rw [hf0] at hKr
      obtain ⟨b1, bl1, L1, L2, eb, hF1, hK1, eL⟩ := hKr
      have hbl : bl1 = bl := by cases eb; rfl
      subst hbl
      have hK0 : K0 = K' := by rw [← hKt, hf0]; rfl
      subst hK0
      -- the result
      have hfin : ∃ v, (if h : vals'.toArray.size = 1 then vals'.toArray[0] else .tuple vals'.toArray) = v ∧ ∃ Lr, Rep P w' Pr' bl1 r v Lr ∧ ∀ x, Lr.count x ≤ Lu.count x := by
        refine ⟨_, rfl, ?_⟩
        split at hret
        · rename_i v hlow
          have hlr := lows_rep hlow hu1
          have hll := hlr.length
          cases hlr with
          | cons g1 g2 =>
            rename_i val L1 vals2 L2
            cases g2
            obtain ⟨L', r1, c1⟩ := g1.le hret
            refine ⟨L', ?_, fun x => by have := c1 x; simp only [List.append_nil]; omega⟩
            simpa using r1
        · rename_i vs2 hne hlow
          obtain ⟨ws, rfl, hle⟩ := hret
          have hlr := lows_rep hlow hu1
          have hll := hlr.length
          obtain ⟨L', r1, c1⟩ := leL_rep hle hlr
          have hsz : ¬ vals'.toArray.size = 1 := by
            intro e1
            have : vs2.length = 1 := by rw [hll]; simpa using e1
            match vs2, this with
            | [v], _ => exact hne v rfl
          rw [dif_neg hsz]
          exact ⟨L', .tup r1, c1⟩
        · exact hret.elim
      obtain ⟨v, ev, Lr, hr, hrc⟩ := hfin
      rw [ev]
      have hcc : ∀ x, Lr.count x + L2.count x + bl1.flatten.count x ≤ 1 := by
        intro x
        have h1 := hc x; have h2 := hrc x
        have h3 : Lk2.count x = L1.count x + L2.count x := by rw [eL]; simp
        have h4 : (b' :: C.bl0).flatten.count x = b'.count x + bl1.flatten.count x := by
          show (b' :: bl1).flatten.count x = _
          simp
        omega
      refine ⟨v, Pr', Lr, L2, bl1, rfl, .inl rfl, hr, hK1, fun x => by have := hcc x; simp only [List.count_append]; omega, fun x hx => ?_, h0.prlt, h0.since⟩
      have hx' := List.count_pos_iff.2 hx
      have h3 : Lk2.count x = L1.count x + L2.count x := by rw [eL]; simp
      have hin : x ∈ C.F ∨ C.w0.heap.size ≤ x := by
        by_cases h1 : 0 < Lu.count x
        · exact hn1 x h1
        · refine h0.new x ?_
          have := hrc x
          simp only [List.count_append] at hx'
          omega
      rcases hin with hin | hin
      · have hin' : x ∈ La ++ Lk ++ bl1.flatten := hin
        rcases List.mem_append.1 hin' with h1 | h1
        · exact .inl h1
        · have := List.count_pos_iff.2 h1
          have := hcc x
          simp only [List.count_append] at hx'
          omega
      · exact .inr hin
    · exact hret.elim
  cases e with
  | normal => exact key hq
  | ret => exact key hq
  | exit id => exact hq.elim
  | goto l => exact hq.elim
  | panic ch => exact hq.elim
  | outgrown => exact hq.elim

/-- The contract of a function that writes what its first argument alone holds, by its body. -/
theorem ct_bodyB {P : Program} {f : FuncId} {fn : Func} {c : Code} {a0 : AC} {args : List AC} {K K' : List (List (List AC))} {r back : AC} (fi : FI) (hf : P.funcs[f]? = some fn) (hb : fn.body = some c)
    (hname : (fn.name == "runtime.NumGoroutine") = false) (hd : dstOk fn.ntmps c = true) (hl : args.length + 1 ≤ fi.n0 ∧ args.length + 1 ≤ fn.ntmps)
    (h : ∀ y, wC P fi c (retQB P fn.results.toList y r K' back) { env := (0, .nam y (mapV (liftP 1) a0)) :: argEnv 1 args, loc := [], K := [] :: K }) (ht : fi.th = []) : CtB P f (a0 :: args) K r K' back := by
  refine ⟨⟨fn, hf, by rw [hb]; rfl, hname⟩, ?_⟩
  intro w Pr bl v0 vals0 La Lk hargs hK hcnt hprlt htab
  have h := h v0
  generalize hvals : v0 :: vals0 = vals at hargs
  have hvl := hargs.length
  simp only [List.length_cons] at hvl
  let C : Cx := ⟨P, fn.ntmps, fi, w, Pr, La ++ Lk ++ bl.flatten, bl, htab⟩
  let tmps : Array Value := vals.toArray ++ Array.replicate (fn.ntmps - vals.toArray.size) undef
  have htmps : ∀ j v, vals[j]? = some v → tmps[0 + j]? = some v := by
    intro j v hj
    have hjl := (List.getElem?_eq_some_iff.1 hj).1
    show (vals.toArray ++ Array.replicate (fn.ntmps - vals.toArray.size) undef)[0 + j]? = some v
    rw [Nat.zero_add, Array.getElem?_append_left (by simpa using hjl)]
    simpa using hj
  obtain ⟨Le, hE, hEc⟩ := argEnv_rep (args := a0 :: args) (moves_lift 1 [[]] bl rfl) 0 tmps hargs htmps
  have h00 : tmps[0]? = some v0 := htmps 0 v0 (by rw [← hvals]; rfl)
  have hE2 : RepE P w Pr ([] :: bl) tmps ((0, .nam v0 (mapV (liftP 1) a0)) :: argEnv 1 args) Le := by
    obtain ⟨L1, L2, x, hx, hr, hE3, rfl⟩ := hE
    have hxv : x = v0 := by
      have hx' : tmps[0]? = some x := hx
      rw [h00] at hx'; cases hx'; rfl
    subst hxv
    exact ⟨L1, L2, x, h00, .nam hr, hE3, rfl⟩
  have hS : SR C { env := (0, .nam v0 (mapV (liftP 1) a0)) :: argEnv 1 args, loc := [], K := [] :: K } { tmps := tmps, defers := [] } w Pr [] [] [] := by
    refine ⟨Le, [], [], Lk, ⟨hE2, rfl, .nil, ⟨[], bl, [], Lk, rfl, ⟨rfl, rfl⟩, hK, rfl⟩, fun x => ?_, fun x hx => ?_, ⟨argEnv_nodup (a0 :: args) 0, fun k hk => ?_⟩, by simp, hprlt, ⟨rfl, rfl, rfl, Nat.le_refl _, fun _ _ _ => rfl, fun p hp => ⟨hp, rfl⟩, fun p hp => .inl hp⟩, rfl, ?_⟩⟩
    · have := hcnt x; have := hEc x
      show Le.count x + ([] : List Nat).count x + ([] : List Nat).count x + Lk.count x + ([] :: bl).flatten.count x ≤ 1
      simp only [List.count_append, List.flatten_cons, List.count_nil] at *; omega
    · left
      show x ∈ La ++ Lk ++ bl.flatten
      have hx' : 0 < Le.count x + ([] : List Nat).count x + ([] : List Nat).count x + Lk.count x + ([] :: bl).flatten.count x := hx
      refine List.count_pos_iff.1 ?_
      have := hEc x
      simp only [List.count_append, List.flatten_cons, List.count_nil] at *; omega
    · have := argEnv_keys (a0 :: args) 0 k hk; simp only [List.length_cons] at this
      show fi.isVar k = true
      unfold FI.isVar
      rw [if_pos (by omega)]
    · show (vals.toArray ++ Array.replicate (fn.ntmps - vals.toArray.size) undef).size = fn.ntmps
      simp only [Array.size_append, List.size_toArray, Array.size_replicate]; omega
  have hw := wC_sound (C := C) (.inl ht) c _ _ _ _ _ _ hd h hS
  refine calls_of_wp hf hb (wp_mono hw ?_)
  rintro e a' w' ⟨st', Pr', b', hq, hS'⟩
  have key : retB P fn.results.toList v0 r K' back st' → a'.defers = [] ∧ ∃ v, (results fn a'.tmps).run P w' = .ok v w' ∧ ∃ v' Pr' Lr Lb Lk' bl', (.returned v : Ending) = .returned v' ∧ BlExt w.heap.size bl bl' ∧ Rep P w' Pr' bl' r v' Lr ∧ Rep P w' Pr' bl' back v0 Lb ∧ RepK P w' Pr' K' bl' Lk' ∧
      (∀ x, (Lr ++ Lb ++ Lk' ++ bl'.flatten).count x ≤ 1) ∧ (∀ x ∈ Lr ++ Lb ++ Lk', x ∈ La ++ Lk ∨ w.heap.size ≤ x) ∧ (∀ a, Pr' a → a.block < w'.heap.size) ∧ Since w Pr (La ++ Lk ++ bl.flatten) w' Pr' := by
    intro hret
    unfold retB at hret
    split at hret
    · rename_i us st2 hres
      obtain ⟨hKt, hret, hback⟩ := hret
      obtain ⟨vals', hrun, hul, hS2, hk2⟩ := hS'.ress hres
      have hdef : a'.defers = [] := by obtain ⟨_, _, _, _, h0⟩ := hS'; exact h0.defers
      refine ⟨hdef, _, results_run hrun, ?_⟩
      obtain ⟨Lu, Le2, Ll2, Lx2, Lk2, hu1, h0, hc, hn1⟩ := hS2.out hul
      obtain ⟨f0, K0, hf0⟩ := h0.K.cons_inv
      have hKr := h0.K
      rw [hf0] at hKr
      obtain ⟨b1, bl1, L1, L2, eb, hF1, hK1, eL⟩ := hKr
      have hbl : bl1 = bl := by cases eb; rfl
      subst hbl
      have hK0 : K0 = K' := by rw [← hKt, hf0]; rfl
      subst hK0
      -- the result
      have hfin : ∃ v, (if h : vals'.toArray.size = 1 then vals'.toArray[0] else .tuple vals'.toArray) = v ∧ ∃ Lr, Rep P w' Pr' bl1 r v Lr ∧ ∀ x, Lr.count x ≤ Lu.count x := by
        refine ⟨_, rfl, ?_⟩
        split at hret
        · rename_i v hlow
          have hlr := lows_rep hlow hu1
          have hll := hlr.length
          cases hlr with
          | cons g1 g2 =>
            rename_i val L1 vals2 L2
            cases g2
            obtain ⟨L', r1, c1⟩ := g1.le hret
            refine ⟨L', ?_, fun x => by have := c1 x; simp only [List.append_nil]; omega⟩
            simpa using r1
        · rename_i vs2 hne hlow
          obtain ⟨ws, rfl, hle⟩ := hret
          have hlr := lows_rep hlow hu1
          have hll := hlr.length
          obtain ⟨L', r1, c1⟩ := leL_rep hle hlr
          have hsz : ¬ vals'.toArray.size = 1 := by
            intro e1
            have : vs2.length = 1 := by rw [hll]; simpa using e1
            match vs2, this with
            | [v], _ => exact hne v rfl
          rw [dif_neg hsz]
          exact ⟨L', .tup r1, c1⟩
        · exact hret.elim
      obtain ⟨v, ev, Lr, hr, hrc⟩ := hfin
      rw [ev]
      have hbk : ∃ Lb, Rep P w' Pr' bl1 back v0 Lb ∧ ∀ x, Lb.count x ≤ Le2.count x := by
        split at hback
        · rename_i y' vb hlk
          obtain ⟨rfl, hback⟩ := hback
          split at hback
          · rename_i vb' hlow
            obtain ⟨x, Lv, hx, hrb, hLv⟩ := h0.env.look hlk
            have hxy := hrb.nam_val
            subst hxy
            obtain ⟨Lb, hrb2, hLb⟩ := (low1_rep (b := b') (bl := bl1) hlow hrb.nam_inv).le hback
            exact ⟨Lb, hrb2, fun z => Nat.le_trans (hLb z) (hLv z)⟩
          · exact hback.elim
        · exact hback.elim
      obtain ⟨Lb, hrb, hbc⟩ := hbk
      have hcc : ∀ x, Lr.count x + Lb.count x + L2.count x + bl1.flatten.count x ≤ 1 := by
        intro x
        have h1 := hc x; have h2 := hrc x; have h2b := hbc x
        have h3 : Lk2.count x = L1.count x + L2.count x := by rw [eL]; simp
        have h4 : (b' :: C.bl0).flatten.count x = b'.count x + bl1.flatten.count x := by
          show (b' :: bl1).flatten.count x = _
          simp
        omega
      refine ⟨v, Pr', Lr, Lb, L2, bl1, rfl, .inl rfl, hr, hrb, hK1, fun x => by have := hcc x; simp only [List.count_append]; omega, fun x hx => ?_, h0.prlt, h0.since⟩
      have hx' := List.count_pos_iff.2 hx
      have h3 : Lk2.count x = L1.count x + L2.count x := by rw [eL]; simp
      have hin : x ∈ C.F ∨ C.w0.heap.size ≤ x := by
        by_cases h1 : 0 < Lu.count x
        · exact hn1 x h1
        · refine h0.new x ?_
          have := hrc x; have := hbc x
          simp only [List.count_append] at hx'
          omega
      rcases hin with hin | hin
      · have hin' : x ∈ La ++ Lk ++ bl1.flatten := hin
        rcases List.mem_append.1 hin' with h1 | h1
        · exact .inl h1
        · have := List.count_pos_iff.2 h1
          have := hcc x
          simp only [List.count_append] at hx'
          omega
      · exact .inr hin
    · exact hret.elim
  cases e with
  | normal => exact key hq
  | ret => exact key hq
  | exit id => exact hq.elim
  | goto l => exact hq.elim
  | panic ch => exact hq.elim
  | outgrown => exact hq.elim
end Go.Proofs.YtkefgpmnimpcdaaGreatDoor.Abs
/- What a call's arguments are: data of their types. No condition. -/
set_option linter.unusedVariables false
set_option linter.unusedSimpArgs false
namespace Go.Proofs.YtkefgpmnimpcdaaGreatDoor.Abs
open Go

/-- Cells that are data of a type. -/
inductive Typed (P : Program) : TypeId → List AC → Prop
  | bool {t b} : P.underlying t = some .bool → Typed P t [.bool b]
  | int {t k n} : P.underlying t = some (.int k) → (Lit.int k n).wf = true → Typed P t [.int k n]
  | str {t s} : P.underlying t = some .string → s.length ≤ reachBytes → Typed P t [.str s]
  | slice {t e n cells} : P.underlying t = some (.slice e) → 0 < P.cellsOf e → cells.length = n * P.cellsOf e → n * P.bytesOf e ≤ reachBytes →
      (∀ i, i < n → Typed P e ((cells.drop (i * P.cellsOf e)).take (P.cellsOf e))) → Typed P t [.sl .no n cells]
  | struct {t fs cells} : P.underlying t = some (.struct fs) → cells.length = P.cellsOf t → (∀ f ∈ fs.toList, Typed P f.type ((cells.drop f.offset).take (P.cellsOf f.type))) → Typed P t cells

def layOk (P : Program) : Nat → List Field → Nat → Bool
  | n, [], m => n == m
  | n, f :: fs, m => f.offset == n && layOk P (n + P.cellsOf f.type) fs m

/-- A set of types that leads to no other kinds of types. -/
def closedSet (P : Program) (S : List TypeId) : Bool := S.all fun t =>
  match P.underlying t with
  | some .bool => true
  | some (.int _) => true
  | some .string => true
  | some (.slice e) => S.elem e && decide (0 < P.cellsOf e)
  | some (.struct fs) => fs.toList.all (fun f => S.elem f.type) && layOk P 0 fs.toList (P.cellsOf t)
  | _ => false

section
variable {H : Type} {enc : TypeId × Value → H} {P : Program} {W : World}

theorem mapM_cons_some {α β : Type} {f : α → Option β} {x : α} {l : List α} {ys : List β} (h : (x :: l).mapM f = some ys) : ∃ y r, ys = y :: r ∧ f x = some y ∧ l.mapM f = some r := by
  simp only [List.mapM_cons, Option.pure_def, Option.bind_eq_bind, Option.bind_eq_some_iff] at h
  obtain ⟨y, h1, r, h2, h3⟩ := h
  simp only [Option.some.injEq] at h3
  exact ⟨y, r, h3.symm, h1, h2⟩

theorem mapM_snoc_some {α β : Type} {f : α → Option β} {x : α} : ∀ {l : List α} {ys : List β}, (l ++ [x]).mapM f = some ys → ∃ r y, ys = r ++ [y] ∧ f x = some y ∧ l.mapM f = some r := by
  intro l
  induction l with
  | nil => intro ys h; obtain ⟨y, r, rfl, h1, h2⟩ := mapM_cons_some h; simp at h2; subst h2; exact ⟨[], y, rfl, h1, by simp⟩
  | cons z l ih =>
    intro ys h
    obtain ⟨y, r, rfl, h1, h2⟩ := mapM_cons_some h
    obtain ⟨r', y', rfl, h3, h4⟩ := ih h2
    exact ⟨y :: r', y', rfl, h3, by simp [List.mapM_cons, h1, h4]⟩

theorem cells?_some {a : Addr} {n : Nat} {cs : List Value} (h : W.cells? 0 a n = some cs) : cs.length = n ∧ ∀ j u, cs[j]? = some u → W.cell? (a.add j) = some u := by
  unfold World.cells? at h
  rw [if_pos (Nat.zero_le _)] at h
  induction n generalizing cs with
  | zero => simp at h; subst h; simp
  | succ n ih =>
    rw [List.range_succ] at h
    obtain ⟨r, y, rfl, h1, h2⟩ := mapM_snoc_some h
    obtain ⟨i1, i2⟩ := ih h2
    refine ⟨by simp [i1], fun j u hj => ?_⟩
    rw [List.getElem?_append] at hj
    split at hj
    · exact i2 j u hj
    · rename_i hlt
      have : j - r.length = 0 := by
        have := (List.getElem?_eq_some_iff.1 hj).1
        simp at this; omega
      have hjn : j = n := by omega
      rw [this] at hj
      simp at hj; subst hj; subst hjn; exact h1

theorem weightsAll_mem {e : TypeId} : ∀ {ds : List (DataW H)} {d : DataW H} {x : Nat}, d ∈ ds → x ∈ d.weights P e → x ∈ DataW.weightsAll P e ds := by
  intro ds
  induction ds with
  | nil => intro d x h; cases h
  | cons d0 ds ih =>
    intro d x h hx
    rw [DataW.weightsAll]
    rcases List.mem_cons.1 h with rfl | h
    · exact List.mem_append_left _ hx
    · exact List.mem_append_right _ (ih h hx)

abbrev PrW (W : World) : Addr → Prop := fun p => p.block < W.heap.size

theorem trod_typed {S : List TypeId} (hS : closedSet P S = true) : ∀ (fuel : Nat) (t : TypeId) (cs : List Value) (d : DataW H) (ps : List MemPlace), t ∈ S → DataW.trod enc P W 0 (fun _ => true) true fuel t cs = some (d, ps) →
    (∀ x ∈ d.weights P t, x ≤ reachBytes) → ∃ acs, Reps P W (PrW W) [] acs cs [] ∧ (∀ v ∈ cs, v.oneCell' = true) ∧ Typed P t acs := by
  intro fuel
  induction fuel with
  | zero => intro t cs d ps _ h; simp [DataW.trod] at h
  | succ fuel ih =>
    intro t cs d ps ht h hw
    have hc := List.all_eq_true.1 hS t ht
    unfold DataW.trod at h
    split at h
    case h_1 hu => cases h; exact ⟨[_], Reps.cons (L := []) .bool .nil, by simp [Value.oneCell'], .bool hu⟩
    case h_2 hu =>
      split at h
      · rename_i hwf
        obtain ⟨rfl, hwf⟩ := hwf
        cases h; exact ⟨[_], Reps.cons (L := []) .int .nil, by simp [Value.oneCell'], .int hu hwf⟩
      · cases h
    case h_4 hu =>
      split at h
      · rename_i s hs
        cases h
        have hl : s.data.toList.length ≤ reachBytes := hw _ (by rw [DataW.weights]; simp)
        exact ⟨[_], Reps.cons (L := []) (.str rfl (by unfold reachBytes at hl; unfold maxLen; omega)) .nil, by simp [Value.oneCell'], .str hu hl⟩
      · cases h
    case h_7 hu =>
      rename_i e
      simp only [hu, Bool.and_eq_true, decide_eq_true_eq] at hc
      exact ⟨[.sl .no 0 []], Reps.cons (L := []) .slNil .nil, by simp [Value.oneCell'], .slice hu hc.2 (by simp) (by simp) (fun i hi => by omega)⟩
    case h_8 hu =>
      rename_i e a len cap
      simp only [hu, Bool.and_eq_true, decide_eq_true_eq] at hc
      obtain ⟨he, hpos⟩ := hc
      have he : e ∈ S := by simpa using he
      split at h
      · rename_i hcond
        obtain ⟨_, hlc, hcm⟩ := hcond
        rw [Option.bind_eq_some_iff] at h
        obtain ⟨elems, h1, h⟩ := h
        rw [Option.map_eq_some_iff] at h
        obtain ⟨rest, h2, h3⟩ := h
        simp only [Prod.mk.injEq] at h3
        obtain ⟨rfl, rfl⟩ := h3
        rw [DataW.weights, hu] at hw
        simp only [List.mem_cons, List.mem_append] at hw
        have hlen : elems.length = len := by
          have : ∀ (l : List Nat) (f : Nat → Option (DataW H × List MemPlace)) ys, l.mapM f = some ys → ys.length = l.length := by
            intro l f
            induction l with
            | nil => intro ys h; simp at h; subst h; rfl
            | cons x l ih => intro ys h; obtain ⟨y, r, rfl, _, h2⟩ := mapM_cons_some h; simp [ih _ h2]
          simpa using this _ _ _ h1
        have key : ∀ n, n ≤ len → ∀ es, (List.range n).mapM (fun i => (W.cells? 0 (a.add (i * P.cellsOf e)) (P.cellsOf e)).bind (DataW.trod enc P W 0 (fun _ => true) true fuel e)) = some es → (∀ x ∈ es, x ∈ elems) →
            ∃ cells vals, Reps P W (PrW W) [] cells vals [] ∧ (∀ v ∈ vals, v.oneCell' = true) ∧ vals.length = n * P.cellsOf e ∧ (∀ j u, vals[j]? = some u → W.cell? (a.add j) = some u) ∧
              ∀ i, i < n → Typed P e ((cells.drop (i * P.cellsOf e)).take (P.cellsOf e)) := by
          intro n
          induction n with
          | zero => intro _ es _ _; exact ⟨[], [], .nil, by simp, by simp, by simp, fun i hi => by omega⟩
          | succ n ihn =>
            intro hn es hes hsub
            rw [List.range_succ] at hes
            obtain ⟨r, y, rfl, hy, hr⟩ := mapM_snoc_some hes
            obtain ⟨cells, vals, g1, g2, g3, g4, g5⟩ := ihn (by omega) r hr (fun x hx => hsub x (by simp [hx]))
            rw [Option.bind_eq_some_iff] at hy
            obtain ⟨ecs, hy1, hy2⟩ := hy
            obtain ⟨c1, c2⟩ := cells?_some hy1
            obtain ⟨acs, k1, k2, k3⟩ := ih e ecs y.1 y.2 he hy2 (fun x hx => hw x (.inr (.inl (weightsAll_mem (List.mem_map.2 ⟨y, hsub y (by simp), rfl⟩) hx))))
            have lc : cells.length = n * P.cellsOf e := by rw [g1.length, g3]
            have la : acs.length = P.cellsOf e := by rw [k1.length, c1]
            refine ⟨cells ++ acs, vals ++ ecs, by simpa using g1.append k1, fun v hv => ?_, by rw [List.length_append, g3, c1, Nat.succ_mul], fun j u hj => ?_, fun i hi => ?_⟩
            · rcases List.mem_append.1 hv with hv | hv
              · exact g2 v hv
              · exact k2 v hv
            · rw [List.getElem?_append] at hj
              split at hj
              · exact g4 j u hj
              · rename_i hlt
                have := c2 _ u hj
                rw [Addr.add_add, g3] at this
                rwa [show n * P.cellsOf e + (j - n * P.cellsOf e) = j by omega] at this
            · by_cases hin : i < n
              · have hle : i * P.cellsOf e + P.cellsOf e ≤ cells.length := by rw [lc, ← Nat.succ_mul]; exact Nat.mul_le_mul_right _ hin
                rw [List.drop_append_of_le_length (by omega), List.take_append_of_le_length (by rw [List.length_drop]; omega)]
                exact g5 i hin
              · have : i = n := by omega
                subst this
                rw [← lc, List.drop_left, List.take_of_length_le (by omega)]
                exact k3
        obtain ⟨cells, vals, g1, g2, g3, g4, g5⟩ := key len (Nat.le_refl _) elems h1 (fun x hx => hx)
        have hby : len * P.bytesOf e ≤ reachBytes := by
          refine Nat.le_trans (Nat.mul_le_mul_right _ ?_) (hw _ (.inl rfl))
          simp [hlen]
        refine ⟨[.sl .no len cells], Reps.cons (L := []) (.slNo g1 g2 (fun j u hj => ⟨?_, g4 j u hj⟩) hlc hcm) .nil, by simp [Value.oneCell'], .slice hu hpos (by rw [g1.length, g3]) hby g5⟩
        have := World.block_lt_of_cell? W _ (g4 j u hj)
        exact this
      · cases h
    case h_9 hu =>
      rename_i cs x0 cs1 fs
      simp only [hu, Bool.and_eq_true] at hc
      obtain ⟨hf, hlay⟩ := hc
      split at h
      · rename_i hlen
        rw [Option.map_eq_some_iff] at h
        obtain ⟨xs, h1, h2⟩ := h
        simp only [Prod.mk.injEq] at h2
        obtain ⟨rfl, rfl⟩ := h2
        rw [DataW.weights, hu] at hw
        have key : ∀ (l : List Field) (n : Nat) (xs : List (DataW H × List MemPlace)), l.mapM (fun f => DataW.trod enc P W 0 (fun _ => true) true fuel f.type ((cs.drop f.offset).take (P.cellsOf f.type))) = some xs →
            (∀ f ∈ l, f.type ∈ S) → layOk P n l cs.length = true → (∀ x ∈ DataW.weightsEach P (l.map (·.type)) (xs.map (·.1)), x ≤ reachBytes) → n ≤ cs.length →
            ∃ acs, Reps P W (PrW W) [] acs (cs.drop n) [] ∧ (∀ v ∈ cs.drop n, v.oneCell' = true) ∧ ∀ f ∈ l, n ≤ f.offset ∧ Typed P f.type ((acs.drop (f.offset - n)).take (P.cellsOf f.type)) := by
          intro l
          induction l with
          | nil =>
            intro n xs hx _ hl _ hn
            simp only [layOk, beq_iff_eq] at hl
            subst hl
            exact ⟨[], by simp; exact .nil, by simp, by simp⟩
          | cons f l ihl =>
            intro n xs hx hmem hl hwt hn
            obtain ⟨y, r, rfl, hy, hr⟩ := mapM_cons_some hx
            simp only [layOk, Bool.and_eq_true, beq_iff_eq] at hl
            obtain ⟨hoff, hl⟩ := hl
            simp only [List.map_cons, DataW.weightsEach, List.mem_append] at hwt
            have hn2 : n + P.cellsOf f.type ≤ cs.length := by
              have : ∀ (l : List Field) (n m : Nat), layOk P n l m = true → n ≤ m := by
                intro l
                induction l with
                | nil => intro n m h; simp [layOk] at h; omega
                | cons f l ih => intro n m h; simp only [layOk, Bool.and_eq_true] at h; have := ih _ _ h.2; omega
              exact this _ _ _ hl
            obtain ⟨a1, k1, k2, k3⟩ := ih f.type _ y.1 y.2 (hmem f List.mem_cons_self) hy (fun x hx => hwt x (.inl hx))
            obtain ⟨a2, j1, j2, j3⟩ := ihl _ r hr (fun g hg => hmem g (List.mem_cons_of_mem _ hg)) hl (fun x hx => hwt x (.inr hx)) hn2
            have la : a1.length = P.cellsOf f.type := by rw [k1.length, hoff]; simp; omega
            have hsplit : cs.drop n = (cs.drop n).take (P.cellsOf f.type) ++ cs.drop (n + P.cellsOf f.type) := by rw [← List.drop_drop, List.take_append_drop]
            rw [hoff] at k1 k2
            refine ⟨a1 ++ a2, by rw [hsplit]; simpa using k1.append j1, fun v hv => ?_, fun g hg => ?_⟩
            · rw [hsplit] at hv
              rcases List.mem_append.1 hv with hv | hv
              · exact k2 v hv
              · exact j2 v hv
            · rcases List.mem_cons.1 hg with rfl | hg
              · refine ⟨by omega, ?_⟩
                rw [hoff, Nat.sub_self, List.drop_zero, ← la, List.take_left]
                exact k3
              · obtain ⟨q1, q2⟩ := j3 g hg
                refine ⟨by omega, ?_⟩
                have e1 : (a1 ++ a2).drop (g.offset - n) = a2.drop (g.offset - (n + P.cellsOf f.type)) := by
                  rw [List.drop_append, List.drop_eq_nil_of_le (by omega), List.nil_append, la]
                  congr 1; omega
                rw [e1]; exact q2
        obtain ⟨acs, r1, r2, r3⟩ := key fs.toList 0 xs h1 (fun f hf' => by simpa using List.all_eq_true.1 hf f hf') (by rw [hlen]; exact hlay) hw (Nat.zero_le _)
        simp only [List.drop_zero, Nat.sub_zero] at r1 r2 r3
        exact ⟨acs, r1, r2, .struct hu (by rw [r1.length, hlen]) fun f hf' => (r3 f hf').2⟩
      · cases h
    all_goals first | (cases h; done) | (rename_i hu; simp [hu] at hc)
end
end Go.Proofs.YtkefgpmnimpcdaaGreatDoor.Abs
/- A law's row, by the law's contract. No condition. -/
set_option linter.unusedVariables false
set_option linter.unusedSimpArgs false
namespace Go.Proofs.YtkefgpmnimpcdaaGreatDoor.Abs
open Go
open Go.ChangeShapes Go.WideShapes Go.ChangeAt Go.RowKit

/-- One argument: data of its type. -/
inductive TypedV (P : Program) : TypeId → AC → Prop
  | agg {t fs cells} : P.underlying t = some (.struct fs) → Typed P t cells → TypedV P t (.agg cells)
  | one {t v} : (∀ fs, P.underlying t ≠ some (.struct fs)) → Typed P t [v] → TypedV P t v

/-- All arguments. -/
inductive TypedVs (P : Program) : List TypeId → List AC → Prop
  | nil : TypedVs P [] []
  | cons {t ts v vs} : TypedV P t v → TypedVs P ts vs → TypedVs P (t :: ts) (v :: vs)

section
variable {H : Type} {enc : TypeId × Value → H} {P : Program} {W : World}

theorem trod_arg {S : List TypeId} (hS : closedSet P S = true) {t : TypeId} {v : Value} {d : DataW H} {ps : List MemPlace} {base : Nat} (ht : t ∈ S) (hval : Value.okWide P W .any base t v)
    (h : DataW.Trod enc P W 0 (fun _ => true) true t v d ps) (hw : ∀ x ∈ d.weights P t, x ≤ reachBytes) : ∃ a, Rep P W (PrW W) [] a v [] ∧ TypedV P t a := by
  obtain ⟨fuel, h⟩ := h
  obtain ⟨acs, h1, h2, h3⟩ := trod_typed hS fuel t _ d ps ht h hw
  by_cases hst : ∃ fs, P.underlying t = some (.struct fs)
  · obtain ⟨fs, hu⟩ := hst
    obtain ⟨cs, rfl, hcs⟩ := okWide_struct hu hval
    refine ⟨.agg acs, ?_, .agg hu h3⟩
    have := Rep.agg h1 h2
    simpa [Value.cells] using this
  · have hone : ∀ {x : Value}, v = x → v.cells = #[v] → ∃ a, Rep P W (PrW W) [] a v [] ∧ TypedV P t a := by
      intro x _ hc
      rw [hc] at h1
      generalize hL : ([] : List Nat) = L at h1
      cases h1 with
      | cons g1 g2 =>
        rename_i a as L1 M
        cases g2
        have hL1 : L1 = [] := by simpa using hL.symm
        subst hL1
        exact ⟨a, g1, .one (fun fs hf => hst ⟨fs, hf⟩) h3⟩
    have hc := List.all_eq_true.1 hS t ht
    split at hc
    · rename_i hu; obtain ⟨b, rfl⟩ := okWide_bool hu hval; exact hone rfl rfl
    · rename_i hu; obtain ⟨b, rfl⟩ := okWide_int hu hval; exact hone rfl rfl
    · rename_i hu; obtain ⟨b, rfl⟩ := okWide_string hu hval; exact hone rfl rfl
    · rename_i hu; obtain ⟨a, l, c, rfl⟩ := okWide_slice hu hval; exact hone rfl rfl
    · rename_i fs hu; exact absurd ⟨fs, hu⟩ hst
    · cases hc

theorem trod_args {S : List TypeId} (hS : closedSet P S = true) : ∀ {ts : List TypeId} {vs : List Value} {ds : List (DataW H)} {ps : List MemPlace}, (∀ t ∈ ts, t ∈ S) →
    (∀ (j : Nat) t v, ts[j]? = some t → vs[j]? = some v → ∃ base, Value.okWide P W .any base t v) → DataW.TrodAll enc P W 0 (fun _ => true) true ts vs ds ps →
    (∀ x ∈ DataW.weightsEach P ts ds, x ≤ reachBytes) → ∃ as, Reps P W (PrW W) [] as vs [] ∧ TypedVs P ts as := by
  intro ts
  induction ts with
  | nil =>
    intro vs ds ps _ _ h _
    obtain ⟨rfl, rfl, rfl⟩ := trodAll_nil h
    exact ⟨[], .nil, .nil⟩
  | cons t ts ih =>
    intro vs ds ps hS' hval h hw
    obtain ⟨v, vs', d, ds', p, q, rfl, rfl, rfl, h1, h2⟩ := trodAll_cons h
    rw [DataW.weightsEach] at hw
    obtain ⟨base, hv⟩ := hval 0 t v rfl rfl
    obtain ⟨a, a1, a2⟩ := trod_arg hS (hS' t List.mem_cons_self) hv h1 (fun x hx => hw x (List.mem_append_left _ hx))
    obtain ⟨as, b1, b2⟩ := ih (fun t ht => hS' t (List.mem_cons_of_mem _ ht)) (fun j t v hj hj' => hval (j + 1) t v (by simpa using hj) (by simpa using hj')) h2 (fun x hx => hw x (List.mem_append_right _ hx))
    exact ⟨a :: as, by simpa using Reps.cons a1 b1, .cons a2 b2⟩

theorem trodAll_kept (hl : laidOutB P = true) {W' : World} (hb : Below W.heap.size W W') : ∀ {ts : List TypeId} {vs : List Value} {ds : List (DataW H)} {ps : List MemPlace}, (∀ t ∈ ts, P.readableRec t = true ∧ t < P.types.size) →
    DataW.TrodAll enc P W 0 (fun _ => true) true ts vs ds ps → (∀ x ∈ ps, x.block < W.heap.size) → DataW.TrodAll enc P W' 0 (fun b => decide (b < W.heap.size)) true ts vs ds ps := by
  intro ts
  induction ts with
  | nil =>
    intro vs ds ps _ h _
    obtain ⟨rfl, rfl, rfl⟩ := trodAll_nil h
    rfl
  | cons t ts ih =>
    intro vs ds ps hr h hlt
    obtain ⟨v, vs', d, ds', p, q, rfl, rfl, rfl, h1, h2⟩ := trodAll_cons h
    obtain ⟨r1, r2⟩ := hr t List.mem_cons_self
    exact ⟨p, q, Below.trod hl r1 r2 h1 hb (fun x hx => hlt x (List.mem_append_left _ hx)), ih (fun t ht => hr t (List.mem_cons_of_mem _ ht)) h2 (fun x hx => hlt x (List.mem_append_right _ hx)), rfl⟩

/-- What a law's contract says of the world. -/
theorem Ct.law {f : FuncId} {args : List AC} {b : Bool} {vals : List Value} (h : Ct P f args [] (.bool b) []) (hr : Reps P W (PrW W) [] args vals []) (htab : Tab W (PrW W)) :
    Calls P f vals.toArray W fun e W' => e = .returned (.bool b) ∧ Below W.heap.size W W' := by
  refine (h.2 W (PrW W) [] vals [] [] hr ⟨rfl, rfl⟩ (by simp) (fun a ha => ha) htab).mono fun e W' ⟨v, Pr', Lr, Lk', bl', he, _, hv, _, _, _, _, hs⟩ => ?_
  cases hv
  exact ⟨he, hs.os, hs.tape, hs.output, hs.size, fun k hk => hs.block k hk (by simp)⟩
end

set_option maxRecDepth 100000 in
/-- A law that returns true, whatever its arguments. -/
theorem law_returns {C : Checked} {os : Os} {f : FuncId} {fn : Func} {s : ChangeSpec} {conds : List PathCond} {H : Type} {enc : TypeId × Value → H} (S : List TypeId)
    (own : ownKnob C.prog.godebug = none) (started : os.Started) (noInit : C.prog.inits.idxOf? f = none) (hfn : C.prog.funcs[f]? = some fn)
    (witness : ∃ (w : World) (tape : Tape) (i : Input), w.os = os ∧ (w.forCall tape i).Shaped C.prog ∧ i.vars = [] ∧ Input.okWide C.prog (w.forCall tape i) .any w.heap.size f i ∧
      s.pre6 enc C.prog fn conds false (w.forCall tape i).memory i.args ∧ ({} : Assume).holds C.prog (lone (Frame.enter C.prog f i.args .normal) [] (w.forCall tape i)))
    (hvars : s.vars = []) (htypes : s.plain.varTypes C.prog = []) (hspec : ∀ ds : List (DataW H), ds.length = fn.params.size → s.fn H ds = { results := [.lit (.bool true)], args := ds })
    {tb : TypeId} (hres : fn.resultTypes = #[tb]) (hbool : C.prog.underlying tb = some .bool)
    (hl : laidOutB C.prog = true) (hS : closedSet C.prog S = true) (hpS : fn.params.toList.all (fun t => S.elem t && C.prog.readableRec t && decide (t < C.prog.types.size)) = true)
    (hct : ∀ args, TypedVs C.prog fn.params.toList args → Ct C.prog f args [] (.bool true) []) (htb : tabs = [] ∧ tabInts = []) :
    ReturnsInHanded {} C os f .any (s.pre6 enc C.prog fn conds false) (s.post enc C.prog fn false true false false) := by
  refine returnsInHanded_of_change_sized own started noInit hfn witness ?_
  intro W base args ds gs before hval hW hcnd hsz _
  have hW' := hW
  obtain ⟨p, q, hA, hV, rfl, hfz, hnd⟩ := hW
  rw [hvars] at hV
  rw [htypes] at hsz
  obtain ⟨rfl, rfl⟩ : gs = [] ∧ q = [] := by
    cases gs with
    | nil => exact ⟨rfl, hV⟩
    | cons g gs => exact hV.elim
  have hp := List.all_eq_true.1 hpS
  simp only [List.append_nil] at hsz
  have hlen : ds.length = fn.params.size := by
    have : ∀ (ts : List TypeId) (vs : List Value) (ds : List (DataW H)) (ps : List MemPlace), DataW.TrodAll enc C.prog W 0 (fun _ => true) true ts vs ds ps → ds.length = ts.length := by
      intro ts
      induction ts with
      | nil => intro vs ds ps h; obtain ⟨_, rfl, _⟩ := trodAll_nil h; rfl
      | cons t ts ih => intro vs ds ps h; obtain ⟨_, _, _, _, _, _, _, rfl, _, _, h2⟩ := trodAll_cons h; simp [ih _ _ _ h2]
    simpa using this _ _ _ _ hA
  obtain ⟨as, r1, r2⟩ := trod_args (S := S) hS (fun t ht => by have := hp t ht; simp only [Bool.and_eq_true] at this; simpa using this.1.1)
    (fun j t v hj hj' => ⟨base, hval j t v (by simpa using hj) (by simpa using hj')⟩) hA (fun x hx => by have := List.all_eq_true.1 hsz x hx; simpa using this)
  refine ((hct as r2).law r1 ⟨fun x hx => (by rw [htb.1] at hx; cases hx), fun x hx => (by rw [htb.2] at hx; cases hx)⟩).mono fun e W' ⟨he, bel⟩ => ?_
  subst he
  have hlt : ∀ x ∈ p, x.block < W.heap.size := fun x hx => hW'.lt x (by simpa using hx)
  refine ⟨_, rfl, ds, [], p ++ [], [], p, [], hW', ?_, ?_, ?_, bel.frame _, fun h => by cases h⟩
  · rw [List.append_nil, hspec ds hlen, hres]
    exact trodAll_mk1 (shut_bool hbool _)
  · rw [List.append_nil, hspec ds hlen]
    exact trodAll_kept hl bel (fun t ht => by have := hp t ht; simp only [Bool.and_eq_true, decide_eq_true_eq] at this; exact ⟨this.1.2, this.2⟩) hA hlt
  · rw [List.append_nil, hspec ds hlen, hvars]
    rfl
end Go.Proofs.YtkefgpmnimpcdaaGreatDoor.Abs
/- Words for the symbolic evaluation. No condition. -/
set_option linter.unusedVariables false
set_option linter.unusedSimpArgs false
namespace Go.Proofs.YtkefgpmnimpcdaaGreatDoor.Abs
open Go

/-- A function's contract by its body. -/
theorem ct_fn {P : Program} {f : FuncId} {fn : Func} {c : Code} {args : List AC} {K K' : List (List (List AC))} {r : AC} (fi : FI) (hf : P.funcs[f]? = some fn) (hb : fn.body = some c)
    (hname : (fn.name == "runtime.NumGoroutine") = false) (hd : dstOk fn.ntmps c = true) (hl : (Nat.ble args.length fi.n0 && Nat.ble args.length fn.ntmps) = true)
    (h : wC P fi c (retQ P fn.results.toList r K') { env := argEnv 0 args, loc := [], K := [] :: K }) (ht : fi.th = [] ∨ (K = [] ∧ args.all noOwn = true) := by exact .inl rfl) : Ct P f args K r K' := by
  simp only [Bool.and_eq_true] at hl
  exact ct_body fi hf hb hname hd ⟨Nat.le_of_ble_eq_true hl.1, Nat.le_of_ble_eq_true hl.2⟩ h ht
/-- What a function does without boxes from outside, it does beside any. -/
theorem Ct.frame {P : Program} {f : FuncId} {args : List AC} {r : AC} (h : Ct P f args [] r []) (ha : args.all flat = true) (hr : flat r = true) (K : List (List (List AC))) : Ct P f args K r K := by
  refine ⟨h.1, ?_⟩
  intro w Pr bl vals La Lk hA hK hcnt hlt htab
  refine (h.2 w Pr [] vals La [] (hA.flat ha) ⟨rfl, rfl⟩ (fun x => by have := hcnt x; simp only [List.count_append, List.flatten_nil, List.count_nil] at *; omega) hlt htab).mono ?_
  rintro e w' ⟨v, Pr', Lr, Lk', bl', rfl, hext, hrep, hK', hc, hn, hlt', hs⟩
  have hbl : bl' = [] := by
    rcases hext with e | ⟨b, r, gs, e, _⟩
    · exact e
    · cases e
  subst hbl
  obtain ⟨_, rfl⟩ := hK'
  simp only [List.append_nil, List.flatten_nil] at hs hn hc
  have hLlt : ∀ x ∈ Lk ++ bl.flatten, x < w.heap.size := fun x hx => by
    rcases List.mem_append.1 hx with hx | hx
    · exact hK.own_lt x hx
    · exact hK.box_lt x hx
  have hLa : ∀ x ∈ Lk ++ bl.flatten, x ∉ La := fun x hx hm => by
    have := hcnt x; have := List.count_pos_iff.2 hx; have := List.count_pos_iff.2 hm
    simp only [List.count_append] at *; omega
  have hkept : ∀ x ∈ Lk ++ bl.flatten, Kept w Pr w' Pr' x := fun x hx => ⟨hs.block x (hLlt x hx) (hLa x hx), fun a ha e => by
    rcases hs.newPr a ha with h1 | h1 | h1
    · exact h1
    · rw [e] at h1; exact absurd h1 (hLa x hx)
    · rw [e] at h1; have := hLlt x hx; omega⟩
  refine ⟨v, Pr', Lr, Lk, bl, rfl, .inl rfl, hrep.flat hr, hK.kept hs.prot (fun g hg => hkept g (List.mem_append_left _ hg)) (fun g hg => hkept g (List.mem_append_right _ hg)), fun x => ?_, fun x hx => ?_, hlt',
    ⟨hs.os, hs.tape, hs.output, hs.size, fun x hx hxF => hs.block x hx (fun hm => hxF (by simp only [List.mem_append]; exact .inl (.inl hm))), hs.prot, fun a ha => ?_⟩⟩
  · have c1 := hcnt x; have c2 := hc x
    simp only [List.count_append] at *
    by_cases hx : 0 < Lr.count x
    · rcases hn x (List.count_pos_iff.1 hx) with hm | hm
      · have := List.count_pos_iff.2 hm; omega
      · have : (Lk ++ bl.flatten).count x = 0 := List.count_eq_zero.2 fun hm' => by have := hLlt x hm'; omega
        simp only [List.count_append] at this; omega
    · omega
  · rcases List.mem_append.1 hx with hx | hx
    · rcases hn x hx with hm | hm
      · exact .inl (List.mem_append_left _ hm)
      · exact .inr hm
    · exact .inl (List.mem_append_right _ hx)
  · rcases hs.newPr a ha with h1 | h1 | h1
    · exact .inl h1
    · exact .inr (.inl (by simp only [List.mem_append]; exact .inl (.inl h1)))
    · exact .inr (.inr h1)

theorem AC.le_bool {a b : Bool} : AC.le (.bool a) (.bool b) ↔ b = a := by
  constructor
  · intro h
    generalize h1 : AC.bool a = x at h
    generalize h2 : AC.bool b = y at h
    cases h <;> first | (subst h1; cases h2; rfl) | (cases h1; done) | (cases h2; done) | (subst h1; simp [Abs.share, Abs.unx] at h2; exact h2)
  · rintro rfl; exact .refl
theorem AC.le_int {k : IntKind} {a b : Int} : AC.le (.int k a) (.int k b) ↔ b = a := by
  constructor
  · intro h
    generalize h1 : AC.int k a = x at h
    generalize h2 : AC.int k b = y at h
    cases h <;> first | (subst h1; cases h2; rfl) | (cases h1; done) | (cases h2; done) | (subst h1; simp [Abs.share, Abs.unx] at h2; exact h2)
  · rintro rfl; exact .refl
theorem AC.le_str {a b : List UInt8} : AC.le (.str a) (.str b) ↔ b = a := by
  constructor
  · intro h
    generalize h1 : AC.str a = x at h
    generalize h2 : AC.str b = y at h
    cases h <;> first | (subst h1; cases h2; rfl) | (cases h1; done) | (cases h2; done) | (subst h1; simp [Abs.share, Abs.unx] at h2; exact h2)
  · rintro rfl; exact .refl
theorem AC.le_self {a : AC} : AC.le a a := .refl
theorem AC.le_undef {a : AC} : AC.le a .undef := .undef
theorem AC.le_share {a : AC} : AC.le a (Abs.share a) := .share
theorem AC.le_nil {o : Ow} : AC.le (.sl .nil 0 []) (.sl o 0 []) := .nil
theorem AC.leL_get : ∀ {cs ds : List AC}, AC.leL cs ds → cs.length = ds.length ∧ ∀ (i : Nat) (h : i < cs.length) (h' : i < ds.length), AC.le cs[i] ds[i] := by
  intro cs
  induction cs with
  | nil => intro ds h; cases ds with
    | nil => exact ⟨rfl, fun i h => by simp at h⟩
    | cons d ds => exact h.elim
  | cons c cs ih => intro ds h; cases ds with
    | nil => exact h.elim
    | cons d ds =>
      obtain ⟨h1, h2⟩ := ih h.2
      refine ⟨by simp [h1], fun i h' h'' => ?_⟩
      cases i with
      | zero => exact h.1
      | succ i => exact h2 i (by simpa using h') (by simpa using h'')
theorem AC.leL_refl : ∀ {cs : List AC}, AC.leL cs cs := by
  intro cs
  induction cs with
  | nil => trivial
  | cons c cs ih => exact ⟨.refl, ih⟩
theorem AC.leL_app {a b c d : List AC} (h1 : AC.leL a c) (h2 : AC.leL b d) : AC.leL (a ++ b) (c ++ d) := by
  induction a generalizing c with
  | nil => cases c with
    | nil => exact h2
    | cons _ _ => exact h1.elim
  | cons x a ih => cases c with
    | nil => exact h1.elim
    | cons y c => exact ⟨h1.1, ih h1.2⟩
theorem AC.le_sl {o : Ow} {n : Nat} {cs ds : List AC} (h : AC.leL cs ds) : AC.le (.sl o n cs) (.sl o n ds) := .sl (AC.leL_get h).1 (AC.leL_get h).2
theorem AC.le_agg {cs ds : List AC} (h : AC.leL cs ds) : AC.le (.agg cs) (.agg ds) := .agg (AC.leL_get h).1 (AC.leL_get h).2

theorem retQ_ret {P : Program} {rs : List ResultVar} {r : AC} {K' : List (List (List AC))} {st : St} : retQ P rs r K' .ret st = retOk P rs st r K' := rfl
theorem retQ_normal {P : Program} {rs : List ResultVar} {r : AC} {K' : List (List (List AC))} {st : St} : retQ P rs r K' .normal st = retOk P rs st r K' := rfl
theorem retQ_exit {P : Program} {rs : List ResultVar} {r : AC} {K' : List (List (List AC))} {st : St} {i : Nat} : retQ P rs r K' (.exit i) st = False := rfl

/-- A loop. -/
theorem wC_loop {P : Program} {fi : FI} {c : Code} {Q : Exit → St → Prop} {st : St} (I : Nat → St → Prop) (n : Nat) (s0 : St) (h1 : st.le s0) (h2 : I n s0)
    (h3 : ∀ n s, I n s → wC P fi c (seqK (roundK I n (s.K.headD []).length) Q) s) : wC P fi (.loop c) Q st := ⟨I, n, s0, none, h1, h2, h3⟩

theorem kill_lift {n : Nat} {c : AC} : killP n (liftP 1 c) = liftP 1 c := by
  cases c with
  | ptr u i o => simp [liftP, killP]
  | _ => rfl
theorem kill_lifts {n : Nat} {l : List AC} : l.map (killP n ∘ liftP 1) = l.map (liftP 1) := List.map_congr_left fun c _ => kill_lift
attribute [simp] kill_lift kill_lifts
/-- A loop, the state first. -/
theorem wC_loopI {P : Program} {fi : FI} {c : Code} {Q : Exit → St → Prop} {st : St} (I : Nat → St → Prop) (n : Nat) {s0 : St} (h2 : I n s0) (h1 : st.le s0)
    (h3 : ∀ n s, I n s → wC P fi c (seqK (roundK I n (s.K.headD []).length) Q) s) : wC P fi (.loop c) Q st := ⟨I, n, s0, none, h1, h2, h3⟩
/-- A loop ahead of which a slot's slice is frozen. -/
theorem wC_loopF {P : Program} {fi : FI} {c : Code} {Q : Exit → St → Prop} {st : St} (k : Nat) (I : Nat → St → Prop) (n : Nat) {s0 : St} (h2 : I n s0) (h1 : (st.frz (some k)).le s0)
    (h3 : ∀ n s, I n s → wC P fi c (seqK (roundK I n (s.K.headD []).length) Q) s) : wC P fi (.loop c) Q st := ⟨I, n, s0, some k, h1, h2, h3⟩
/-- A loop that counts up to n at most. -/
def forI (S : Nat → St) (n : Nat) : Nat → St → Prop := fun k s => ∃ i, i ≤ n ∧ k = n - i ∧ s = S i
theorem wC_for {P : Program} {fi : FI} {c : Code} {Q : Exit → St → Prop} {st : St} (S : Nat → St) (n : Nat) (h1 : st.le (S 0))
    (h3 : ∀ i, i ≤ n → wC P fi c (seqK (roundK (forI S n) (n - i) ((S i).K.headD []).length) Q) (S i)) : wC P fi (.loop c) Q st := by
  refine ⟨forI S n, n, S 0, none, h1, ⟨0, Nat.zero_le _, rfl, rfl⟩, ?_⟩
  rintro k s ⟨i, hi, rfl, rfl⟩
  exact h3 i hi
theorem for_next {S : Nat → St} {n i c : Nat} {s : St} (h : i < n) (hle : (s.trunc c).le (S (i + 1))) : roundK (forI S n) (n - i) c s :=
  ⟨n - (i + 1), by omega, _, hle, i + 1, h, rfl, rfl⟩

theorem St.le_of {s t : St} (h1 : (t.env.map (·.1)).Nodup) (h2 : ∀ x ∈ t.env, ∃ u, look x.1 s.env = some u ∧ AC.le u x.2) (h3 : t.loc = []) (h4 : s.K = t.K) : s.le t := by
  refine ⟨h1, fun k v hk => ?_, h3, h4⟩
  have : ∀ l : List (Nat × AC), look k l = some v → (k, v) ∈ l := by
    intro l
    induction l with
    | nil => intro h; simp [look] at h
    | cons x l ih =>
      intro h
      obtain ⟨a, b⟩ := x
      simp only [look] at h
      split at h
      · rename_i e; cases h; subst e; exact List.mem_cons_self
      · exact List.mem_cons_of_mem _ (ih h)
  exact h2 _ (this _ hk)

theorem wC_cond2 {P : Program} {fi : FI} {Q : Exit → St → Prop} {st : St} {c : Operand} {a b : Code} : wC P fi (.cond c a b) Q st = match st.ev c with
    | .bool v => (v = true → wC P fi a Q st) ∧ (v = false → wC P fi b Q st)
    | _ => False := rfl
theorem wOp_some2 {P : Program} {fi : FI} {st : St} {m : Bool} {ops : List Oper} {k : St → Prop} {dst : Option Nat} {op : Go.Op} {ty : TypeId} {pos : String} {after : Array Edge} {g : Nat} {want : Bool} :
    wOp P fi m ops { dst := dst, op := op, type := ty, pos := pos, after := after, guard := some (g, want) } k st = match gVal st ops g want with
    | some b => wDo P fi false (some b) dst op st (optK fi dst b k)
    | none => False := rfl
/-- A region that draws its order. -/
theorem wRun_draw {P : Program} {fi : FI} {k : St → Prop} {st : St} {ops : Array Oper} (kd : Bool) (hm : P.follows .mixedOrders = true) (hck : drawOk { fi with es := false, bw := [], qs := [] } kd ops.toList = true)
    (h : wOpsD P { fi with es := false, bw := [], qs := [], qr := [] } kd ops.toList ops.toList (drawE k) st) : wRun P fi ops true k st :=
  ⟨fun _ => ⟨hm, .inl ⟨kd, [], [], (drawOk_qr (qr := fi.qr)).trans hck, h⟩⟩, fun e => by cases e⟩
/-- The same, where p and q may come either way round. -/
theorem wRun_draw2 {P : Program} {fi : FI} {k : St → Prop} {st : St} {ops : Array Oper} (kd : Bool) (p q : Nat) (hm : P.follows .mixedOrders = true) (hck : drawOk2 { fi with es := false, bw := [], qs := [] } kd p q ops.toList = true)
    (hA : wOpsD P { fi with es := false, bw := [], qs := [], qr := [] } kd ops.toList ops.toList (drawE k) st)
    (hB : wOpsD P { fi with es := false, bw := [], qs := [], qr := [] } kd ops.toList ((ordB p q (List.range ops.size)).filterMap (ops[·]?)) (drawE k) st) : wRun P fi ops true k st :=
  ⟨fun _ => ⟨hm, .inr (.inr (.inr ⟨kd, p, q, hck, hA, hB⟩))⟩, fun e => by cases e⟩
/-- Where the operations do what a table tells, whatever their order. -/
theorem wRun_tab2 {P : Program} {fi : FI} {k : St → Prop} {st : St} {ops : Array Oper} (keys : List (Option Nat)) (E : List Ent) (hkeys : keysE E = keys) (hm : P.follows .mixedOrders = true) (hck : tabOk2 fi keys ops.toList = true) (hp : (valsE E).all (fun x => pureP st.env x.2) = true)
    (h : wTab2 P fi E st k 0 E ops.toList) : wRun P fi ops true k st :=
  ⟨fun _ => ⟨hm, .inr (.inr (.inl ⟨E, by rw [hkeys]; exact hck, hp, h⟩))⟩, fun e => by cases e⟩
/-- Where all operations but the last yield what a table tells, whatever their order. -/
theorem wRun_tab {P : Program} {fi : FI} {k : St → Prop} {st : St} {ops : Array Oper} (T : List (Nat × AC)) (hm : P.follows .mixedOrders = true) (hck : tabOk fi (T.map (·.1)) ops.toList = true) (hp : T.all (fun x => pureV x.2) = true)
    (h : wTab P fi T st k T ops.toList) : wRun P fi ops true k st :=
  ⟨fun _ => ⟨hm, .inr (.inl ⟨T, hck, hp, h⟩)⟩, fun e => by cases e⟩
/-- The same, where some calls' results are told ahead. -/
theorem wRun_drawQ {P : Program} {fi : FI} {k : St → Prop} {st : St} {ops : Array Oper} (qr : List (Nat × AC)) (qs : List Nat) (hm : P.follows .mixedOrders = true) (hck : drawOk { fi with es := false, bw := [], qs := qs } true ops.toList = true)
    (h : wOpsD P { fi with es := false, bw := [], qs := qs, qr := qr } true ops.toList ops.toList (drawE k) st) : wRun P fi ops true k st :=
  ⟨fun _ => ⟨hm, .inl ⟨true, qs, qr, hck, h⟩⟩, fun e => by cases e⟩
theorem quietK_of {P : Program} {gd : Option Bool} {f : FuncId} {args : List AC} {r : AC} {k : Prop} (h : ∀ K, Ct P f args K r K) (hk : k) : quietK P gd f args r ∧ k := ⟨fun _ => h, hk⟩
/-- The contract of a function that writes what its first argument alone holds, by its body. -/
theorem ct_fnB {P : Program} {f : FuncId} {fn : Func} {c : Code} {a0 : AC} {args : List AC} {K K' : List (List (List AC))} {r back : AC} (fi : FI) (hf : P.funcs[f]? = some fn) (hb : fn.body = some c)
    (hname : (fn.name == "runtime.NumGoroutine") = false) (hd : dstOk fn.ntmps c = true) (hl : (Nat.ble (args.length + 1) fi.n0 && Nat.ble (args.length + 1) fn.ntmps) = true)
    (h : ∀ y, wC P fi c (retQB P fn.results.toList y r K' back) { env := (0, .nam y (mapV (liftP 1) a0)) :: argEnv 1 args, loc := [], K := [] :: K }) (ht : fi.th = [] := by rfl) : CtB P f (a0 :: args) K r K' back := by
  simp only [Bool.and_eq_true] at hl
  exact ct_bodyB fi hf hb hname hd ⟨Nat.le_of_ble_eq_true hl.1, Nat.le_of_ble_eq_true hl.2⟩ h ht
theorem retQB_ret {P : Program} {rs : List ResultVar} {y : Value} {r back : AC} {K' : List (List (List AC))} {st : St} : retQB P rs y r K' back .ret st = retB P rs y r K' back st := rfl
theorem retQB_normal {P : Program} {rs : List ResultVar} {y : Value} {r back : AC} {K' : List (List (List AC))} {st : St} : retQB P rs y r K' back .normal st = retB P rs y r K' back st := rfl
theorem retQB_exit {P : Program} {rs : List ResultVar} {y : Value} {r back : AC} {K' : List (List (List AC))} {st : St} {i : Nat} : retQB P rs y r K' back (.exit i) st = False := rfl
abbrev putKD (P : Program) (fi : FI) (kd : Bool) (op : Go.Op) (dst : Option Nat) (k : St → Prop) (K0 : List (List (List AC))) (v : AC) (s : St) : Prop := ((kd = true → isCall op = true → s.K = K0) ∧ tlOk P fi dst op v) ∧ k (s.put fi dst v)
abbrev optKD (P : Program) (fi : FI) (kd : Bool) (op : Go.Op) (dst : Option Nat) (b : Bool) (k : St → Prop) (K0 : List (List (List AC))) (v : AC) (s : St) : Prop := ((kd = true → isCall op = true → s.K = K0) ∧ tlOk P fi dst op v) ∧ k (s.put fi dst (.opt b v))
/-- Where a call that writes what its first argument alone holds waits for its contract. -/
def endB (P : Program) (f : FuncId) (vs : List AC) (K : List (List (List AC))) (ok : AC → Bool) (put : AC → St) (k : AC → St → Prop) : Prop := ∃ r K' back, CtB P f vs K r K' back ∧ ok back = true ∧ k r { put back with K := K' }
theorem endB_of {P : Program} {f : FuncId} {vs : List AC} {K K' : List (List (List AC))} {ok : AC → Bool} {put : AC → St} {k : AC → St → Prop} {r back : AC} (h : CtB P f vs K r K' back) (ho : ok back = true) (hk : k r { put back with K := K' }) : endB P f vs K ok put k := ⟨r, K', back, h, ho, hk⟩
theorem wOpsD_nil {P : Program} {fi : FI} {kd : Bool} {ops : List Oper} {k : St → Prop} {st : St} : wOpsD P fi kd ops [] k st = k st := rfl
theorem wOpsD_cons {P : Program} {fi : FI} {kd : Bool} {ops rest : List Oper} {o : Oper} {k : St → Prop} {st : St} : wOpsD P fi kd ops (o :: rest) k st = wOpD P fi kd ops o (wOpsD P fi kd ops rest k) st := rfl
theorem wOpD_none {P : Program} {fi : FI} {kd : Bool} {ops : List Oper} {k : St → Prop} {st : St} {dst : Option Nat} {op : Go.Op} {ty : TypeId} {pos : String} {after : Array Edge} :
    wOpD P fi kd ops { dst := dst, op := op, type := ty, pos := pos, after := after, guard := none } k st = wDoD P fi true none dst op st (putKD P fi kd op dst k st.K) := rfl
theorem wOpD_some {P : Program} {fi : FI} {kd : Bool} {ops : List Oper} {k : St → Prop} {st : St} {dst : Option Nat} {op : Go.Op} {ty : TypeId} {pos : String} {after : Array Edge} {g : Nat} {want : Bool} :
    wOpD P fi kd ops { dst := dst, op := op, type := ty, pos := pos, after := after, guard := some (g, want) } k st = match gVal st ops g want with
      | some b => wDoD P fi false (some b) dst op st (optKD P fi kd op dst b k st.K)
      | none => False := rfl
theorem wDoD_eq {P : Program} {fi : FI} {m : Bool} {gd : Option Bool} {dst : Option Nat} {op : Go.Op} {st : St} {k : AC → St → Prop} : wDoD P fi m gd dst op st k = match isLen op with
    | some (x, t) => un gd (st.ev x) fun v => wLenD gd (tdOf P t) v fun v => k v st
    | none => match isQ fi dst op with
      | some (f, args, r) => wQ P gd f args r st k
      | none => wDo P fi m gd dst op st k := rfl
section
variable {P : Program} {fi : FI} {m : Bool} {gd : Option Bool} {st : St}
theorem wTs_nil {k : List AC → St → Prop} : wTs fi m gd [] st k = k [] st := rfl
theorem wTs_cons {x : Operand} {xs : List Operand} {k : List AC → St → Prop} : wTs fi m gd (x :: xs) st k = wT fi m gd st x fun v st => wTs fi m gd xs st fun vs st => k (v :: vs) st := rfl
theorem wTs_arr {l : List Operand} {k : List AC → St → Prop} : wTs fi m gd l.toArray.toList st k = wTs fi m gd l st k := rfl
theorem wTs_map {l : List (Nat × Operand)} {k : List AC → St → Prop} : wTs fi m gd (l.toArray.toList.map (·.2)) st k = wTs fi m gd (l.map (·.2)) st k := rfl
theorem wTs_mapcons {x : Nat × Operand} {l : List (Nat × Operand)} {k : List AC → St → Prop} : wTs fi m gd ((x :: l).map (·.2)) st k = wTs fi m gd (x.2 :: l.map (·.2)) st k := rfl
theorem wTs_mapnil {k : List AC → St → Prop} : wTs fi m gd (([] : List (Nat × Operand)).map (·.2)) st k = k [] st := rfl
theorem wXs_nil {k : List AC → Prop} : wXs gd st [] k = k [] := rfl
theorem wXs_cons {x : Operand} {xs : List Operand} {k : List AC → Prop} : wXs gd st (x :: xs) k = un gd (st.ev x) fun v => wXs gd st xs fun vs => k (share v :: vs) := rfl
theorem optInt_none {d : Int} {k : Int → Prop} : optInt gd st d none k = k d := rfl
theorem optInt_some {d : Int} {x : Operand} {k : Int → Prop} : optInt gd st d (some x) k = un gd (st.ev x) fun v => match v with
    | .int _ n => k n
    | _ => False := rfl
theorem nameE_nil {k : List (Nat × AC) → Prop} : nameE [] k = k [] := rfl
theorem nameE_cons {j : Nat} {v : AC} {r : List (Nat × AC)} {k : List (Nat × AC) → Prop} : nameE ((j, v) :: r) k = if isX v then ∀ y : Value, nameE r fun r' => k ((j, .nam y v) :: r') else nameE r fun r' => k ((j, v) :: r') := rfl
theorem nameE_st {e l : List (Nat × AC)} {K : List (List (List AC))} {k : List (Nat × AC) → Prop} : nameE (St.mk e l K).env k = nameE e k := rfl
theorem nameX_st {e l : List (Nat × AC)} {K : List (List (List AC))} {K2 : List (List (List AC))} {k : List (Nat × AC) → Prop} : nameX K2 (St.mk e l K).env k = nameX K2 e k := rfl
theorem backE_st {e l env0 env1 : List (Nat × AC)} {K : List (List (List AC))} {k : List (Nat × AC) → Prop} : backE env0 env1 (St.mk e l K).env k = backE env0 env1 e k := rfl
theorem nameX_nil {K2 : List (List (List AC))} {k : List (Nat × AC) → Prop} : nameX K2 [] k = k [] := rfl
theorem nameX_cons {j : Nat} {v : AC} {r : List (Nat × AC)} {K2 : List (List (List AC))} {k : List (Nat × AC) → Prop} : nameX K2 ((j, v) :: r) k = if scalar v then nameX K2 r fun r' => k ((j, v) :: r') else ∀ y : Value, nameX K2 r fun r' => k ((j, .nam y (lendV K2 v)) :: r') := rfl
theorem backE_nil {env0 env1 : List (Nat × AC)} {k : List (Nat × AC) → Prop} : backE env0 env1 [] k = k [] := rfl
theorem backE_nam {env0 env1 r : List (Nat × AC)} {j : Nat} {y : Value} {v : AC} {k : List (Nat × AC) → Prop} : backE env0 env1 ((j, .nam y v) :: r) k = match look j env1, look j env0 with
      | some (.nam y' _), some u => y' = y ∧ backE env0 env1 r fun r' => k ((j, u) :: r')
      | _, _ => False := rfl
theorem backE_cons {env0 env1 r : List (Nat × AC)} {j : Nat} {v : AC} {k : List (Nat × AC) → Prop} (h : ∀ y u, v ≠ .nam y u) : backE env0 env1 ((j, v) :: r) k = (closed v = true ∧ backE env0 env1 r fun r' => k ((j, toEx v) :: r')) := by
  cases v <;> first | rfl | exact absurd rfl (h _ _)
theorem callB_cons {f : FuncId} {x : Operand} {xs : List Operand} {k : AC → St → Prop} : callB P gd f (x :: xs) k st = wBorrow st x fun v ok put => wXs gd st xs fun vs => endB P f (v :: vs) st.K ok put k := rfl
theorem callB_arr {f : FuncId} {l : List Operand} {k : AC → St → Prop} : callB P gd f l.toArray.toList k st = callB P gd f l k st := rfl
end
attribute [simp ↓] nameE_st nameX_st backE_st wTs_nil wTs_cons wTs_arr wTs_map wTs_mapcons wTs_mapnil wXs_nil wXs_cons optInt_none optInt_some nameE_nil nameE_cons nameX_nil nameX_cons backE_nil backE_nam backE_cons callB_cons callB_arr
attribute [simp] qOk isQ noTk wQ tlOk ldTy isAggV isTL noUndef drawE lentE keepS wConv bytesOf retQB_ret retQB_normal retQB_exit retB putKD optKD wOpsD_nil wOpsD_cons wOpD_none wOpD_some wDoD_eq isLen isCall wLenD wC_cond2 wOp_some2 pickV gVal AC.le_bool AC.le_int AC.le_str AC.le_self AC.le_undef AC.le_share AC.le_nil AC.leL.eq_1 AC.leL.eq_2 retQ_ret retQ_normal retQ_exit retOk resVs resStep lows low1 List.mapM_cons List.mapM_nil
end Go.Proofs.YtkefgpmnimpcdaaGreatDoor.Abs
