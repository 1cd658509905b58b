/- Regions in the text's order, code, loops: the weakest precondition is sound. No condition. -/
import Derived.Test.YtkpdlbidadcdjaaDoorAbsO
set_option linter.unusedVariables false
set_option linter.unusedSimpArgs false
namespace Go.Proofs.YtkpdlbidadcdjaaDoor.Abs
open Go

def opDst (n : Nat) (o : Oper) : Bool :=
  match o.dst with
  | some d => decide (d < n)
  | none => true

/-- Every slot that the code writes is one of the n. -/
def dstOk (n : Nat) : Code → Bool
  | .region _ ops _ => ops.toList.all (opDst n)
  | .seq a b => dstOk n a && dstOk n b
  | .cond _ a b => dstOk n a && dstOk n b
  | .block _ c => dstOk n c
  | .loop c => dstOk n c
  | _ => true

/-- Of the regions that draw their order. -/
def Draws (P : Program) (fi : FI) : Prop :=
  ∀ (C : Cx), C.P = P → C.fi = fi → ∀ (ops : Array Oper) (st : St) (a : Act) (w : World) (Pr : Addr → Prop) (b : List Nat) (k : St → Prop) (Q : Exit → Act → World → Prop) (id : Nat), True

section
variable {C : Cx} {st : St} {a : Act} {w : World} {Pr : Addr → Prop} {b : List Nat} {xs : List AC} {vs : List Value} {m : Bool}

theorem getD_bool {tmps : Array Value} {d : Nat} {x : Bool} (h : tmps.getD d undef = .bool x) : tmps[d]? = some (.bool x) := by
  rw [Array.getD_eq_getD_getElem?] at h
  cases ht : tmps[d]? with
  | none => rw [ht] at h; simp [undef] at h
  | some y => rw [ht] at h; simp at h; rw [h]

theorem gVal_wanted {ops : Array Oper} {g : Nat} {want c : Bool} (h : SR C st a w Pr b xs vs) (hv : gVal st ops.toList g want = some c) : (yielded ops a.tmps g == some want) = c := by
  unfold gVal at hv
  cases hd : (ops.toList[g]?).bind (·.dst) with
  | none => simp only [hd] at hv; cases hv
  | some d =>
    have hd' : (ops[g]?).bind (·.dst) = some d := by rw [← Array.getElem?_toList]; exact hd
    simp only [hd] at hv
    obtain ⟨Le, Ll, Lx, Lk, h0⟩ := h
    obtain ⟨L, hr, _⟩ := h0.get d
    split at hv
    · rename_i x hx
      rw [hx] at hr
      generalize hz : a.tmps.getD d undef = z at hr
      cases hr
      have := getD_bool hz
      simp only [Option.some.injEq] at hv
      subst hv
      simp [yielded, hd', this]
    · rename_i g' x hx
      rw [hx] at hr
      generalize hz : a.tmps.getD d undef = z at hr
      simp only [Option.some.injEq] at hv
      subst hv
      cases hr with
      | optT hr =>
        cases hr
        have := getD_bool hz
        simp [yielded, hd', this]
      | optF =>
        have : ∀ y : Bool, a.tmps[d]? ≠ some (.bool y) := by
          intro y e
          rw [Array.getD_eq_getD_getElem?, e] at hz
          simp [undef] at hz
        have hy : yielded ops a.tmps g = none := by
          unfold yielded
          simp only [hd', Option.bind_some]
          first | done | (split; · rename_i y hy; exact absurd hy (this y)
                          · rfl)
        rw [hy]; rfl
    · rename_i hx
      rw [hx] at hr
      generalize hz : a.tmps.getD d undef = z at hr
      simp only [Option.some.injEq] at hv
      subst hv
      cases hr with
      | optF =>
        have : ∀ y : Bool, a.tmps[d]? ≠ some (.bool y) := by
          intro y e
          rw [Array.getD_eq_getD_getElem?, e] at hz
          simp [undef] at hz
        have hy : yielded ops a.tmps g = none := by
          unfold yielded
          simp only [hd', Option.bind_some]
          first | done | (split; · rename_i y hy; exact absurd hy (this y)
                          · rfl)
        rw [hy]; rfl
    · cases hv

theorem wOps_sound {ops : Array Oper} {Q : Exit → Act → World → Prop} {k : St → Prop} (hk : ∀ st' a' w' Pr' b', k st' → SR C st' a' w' Pr' b' [] [] → Q .normal a' w') : ∀ (l : List Oper) (st : St) (a : Act) (w : World) (Pr : Addr → Prop) (b : List Nat),
    l.all (opDst C.N) = true → wOps C.P C.fi m ops.toList l k st → SR C st a w Pr b [] [] → wpList C.P ops Q l a w := by
  intro l
  induction l with
  | nil => intro st a w Pr b _ h hS; exact hk _ _ _ _ _ h hS
  | cons o rest ih =>
    intro st a w Pr b hd h hS
    simp only [List.all_cons, Bool.and_eq_true] at hd
    have hdst : ∀ j, o.dst = some j → j < C.N := by
      intro j hj
      have := hd.1
      simp only [opDst, hj, decide_eq_true_eq] at this
      exact this
    change wOp C.P C.fi m ops.toList o (wOps C.P C.fi m ops.toList rest k) st at h
    unfold wOp at h
    unfold wpList
    cases hg : o.guard with
    | none =>
      simp only [hg] at h
      rw [if_pos (by simp [Region.wanted, hg])]
      refine .inl (wDo_sound hS (by simp [gOk]) h ?_)
      intro av st' v w' Pr' b' hk' hS' _
      exact ih _ _ _ _ _ hd.2 hk' (hS'.put o.dst hdst)
    | some gw =>
      obtain ⟨g, want⟩ := gw
      simp only [hg] at h
      cases hv : gVal st ops.toList g want with
      | none => simp [hv] at h
      | some c =>
        simp only [hv] at h
        have hw := gVal_wanted hS hv
        have hwant : Region.wanted o (yielded ops a.tmps) = c := by simp only [Region.wanted, hg]; exact hw
        cases c with
        | true =>
          rw [if_pos hwant]
          refine .inl (wDo_sound hS (by simp [gOk]) h ?_)
          intro av st' v w' Pr' b' hk' hS' _
          have hS2 := hS'.weaken (d := .opt true av) fun L hr => ⟨L, .optT hr, fun x => Nat.le_refl _⟩
          exact ih _ _ _ _ _ hd.2 hk' (hS2.put o.dst hdst)
        | false =>
          rw [if_neg (by rw [hwant]; simp)]
          obtain ⟨av, hk'⟩ := wDo_any (by simp [gOk]) h
          exact ih _ _ _ _ _ hd.2 hk' (SR.put (c := .opt false av) (hS.push .optF) o.dst hdst)

/-- A state that says less. -/
theorem SR.kill (h : SR C st a w Pr b xs vs) (n : Nat) (hx : xs = []) : SR C (st.trunc n) a w Pr (b.take n) [] [] := by
  obtain ⟨Le, Ll, Lx, Lk, h⟩ := h
  have hm := moves_kill n b C.bl0
  have hE : ∀ (env : List (Nat × AC)) (L : List Nat), RepE C.P w Pr (b :: C.bl0) a.tmps env L → ∃ L', RepE C.P w Pr (b.take n :: C.bl0) a.tmps (env.map fun x => (x.1, mapV (killP n) x.2)) L' ∧ ∀ x, L'.count x ≤ L.count x := by
    intro env
    induction env with
    | nil => intro L h; exact ⟨[], rfl, fun x => by simp⟩
    | cons e env ih =>
      intro L h
      obtain ⟨k', v'⟩ := e
      obtain ⟨L1, L2, y, hx, hr, hE, rfl⟩ := h
      obtain ⟨M1, g1, c1⟩ := hr.mapV hm
      obtain ⟨M2, g2, c2⟩ := ih L2 hE
      exact ⟨M1 ++ M2, ⟨M1, M2, y, hx, g1, g2, rfl⟩, fun x => by have := c1 x; have := c2 x; simp only [List.count_append]; omega⟩
  have hF : ∀ (f : List (List AC)) (gs L : List Nat) (j : Nat), RepF C.P w Pr (b :: C.bl0) f gs L → ∃ L', RepF C.P w Pr (b.take n :: C.bl0) ((f.take j).map fun c => c.map (mapC (killP n))) (gs.take j) L' ∧ ∀ x, L'.count x ≤ L.count x := by
    intro f
    induction f with
    | nil => intro gs L j h; rw [h.1]; exact ⟨[], by simp [RepF], fun x => by simp⟩
    | cons c f ih =>
      intro gs L j h
      obtain ⟨g, gs', cur, T, L1, L2, rfl, hg, hr, h1, hpr, hF, rfl⟩ := h
      cases j with
      | zero => exact ⟨[], by simp [RepF], fun x => by simp⟩
      | succ j =>
        obtain ⟨M1, g1, c1⟩ := Reps.mapC hm hr
        obtain ⟨M2, g2, c2⟩ := ih gs' L2 j hF
        exact ⟨M1 ++ M2, ⟨g, gs'.take j, cur, T, M1, M2, rfl, hg, g1, h1, hpr, g2, rfl⟩, fun x => by have := c1 x; have := c2 x; simp only [List.count_append]; omega⟩
  obtain ⟨Le', e1, e2⟩ := hE _ _ h.env
  obtain ⟨f, K0, hK⟩ := h.K.cons_inv
  have hK1 := h.K
  rw [hK] at hK1
  obtain ⟨b', bl', L1, L2, eb, hF1, hK2, rfl⟩ := hK1
  cases eb
  obtain ⟨L1', f1, f2⟩ := hF f b L1 n hF1
  have htk : ∀ x, (b.take n).count x ≤ b.count x := fun x => (List.take_sublist n b).count_le x
  refine ⟨Le', [], [], L1' ++ L2, ⟨e1, rfl, .nil, ?_, fun x => ?_, fun x hx => h.new x ?_, ⟨?_, ?_⟩, by simp [St.trunc], h.prlt, h.since, h.defers, h.size⟩⟩
  · simp only [St.trunc, hK]
    exact ⟨b.take n, C.bl0, L1', L2, rfl, f1, hK2, rfl⟩
  · have := h.cnt x; have := e2 x; have := f2 x; have := htk x
    simp only [List.flatten_cons, List.count_append, List.count_nil] at *; omega
  · have := e2 x; have := f2 x; have := htk x
    simp only [List.flatten_cons, List.count_append, List.count_nil] at *; omega
  · have : (st.trunc n).env.map (·.1) = st.env.map (·.1) := by simp [St.trunc]
    rw [this]; exact h.kE.1
  · have : (st.trunc n).env.map (·.1) = st.env.map (·.1) := by simp [St.trunc]
    rw [this]; exact h.kE.2

theorem Reps.le_of {P : Program} {bl : List (List Nat)} {cs : List AC} : ∀ {ds : List AC} {vs : List Value} {L : List Nat}, Reps P w Pr bl cs vs L → cs.length = ds.length →
    (∀ (i : Nat) (h : i < cs.length) (h' : i < ds.length), ∀ v L, Rep P w Pr bl cs[i] v L → ∃ L', Rep P w Pr bl ds[i] v L' ∧ ∀ x, L'.count x ≤ L.count x) → ∃ L', Reps P w Pr bl ds vs L' ∧ ∀ x, L'.count x ≤ L.count x := by
  induction cs with
  | nil =>
    intro ds vs L h hl _
    cases ds with
    | nil => exact ⟨L, h, fun x => Nat.le_refl _⟩
    | cons d ds => simp at hl
  | cons c cs ih =>
    intro ds vs L h hl hi
    cases ds with
    | nil => simp at hl
    | cons d ds =>
      cases h with
      | cons h1 h2 =>
        obtain ⟨L1, r1, c1⟩ := hi 0 (by simp) (by simp) _ _ h1
        obtain ⟨L2, r2, c2⟩ := ih h2 (by simpa using hl) (fun i h h' v L hr => hi (i + 1) (by simpa using h) (by simpa using h') v L hr)
        exact ⟨L1 ++ L2, .cons r1 r2, fun x => by have := c1 x; have := c2 x; simp only [List.count_append]; omega⟩

theorem Rep.le {P : Program} {bl : List (List Nat)} {c d : AC} {v : Value} {L : List Nat} (h : Rep P w Pr bl c v L) (hle : AC.le c d) : ∃ L', Rep P w Pr bl d v L' ∧ ∀ x, L'.count x ≤ L.count x := by
  induction hle generalizing bl v L with
  | refl => exact ⟨L, h, fun x => Nat.le_refl _⟩
  | undef => exact ⟨[], .undef, fun x => by simp⟩
  | share => exact ⟨[], h.share, fun x => by simp⟩
  | nil => cases h; exact ⟨[], .slNil, fun x => by simp⟩
  | unx => exact ⟨L, h.unx, fun x => Nat.le_refl _⟩
  | nam _ ih =>
    cases h with
    | nam h =>
      obtain ⟨L', h1, h2⟩ := ih h
      exact ⟨L', .nam h1, h2⟩
  | bare _ ih => exact ih h.nam_inv
  | agg hl _ ih =>
    cases h with
    | agg h1 h2 =>
      obtain ⟨L', g1, g2⟩ := h1.le_of hl (fun i h h' v L hr => ih i h h' hr)
      exact ⟨L', .agg g1 h2, g2⟩
  | tup hl _ ih =>
    cases h with
    | tup h1 =>
      obtain ⟨L', g1, g2⟩ := h1.le_of hl (fun i h h' v L hr => ih i h h' hr)
      exact ⟨L', .tup g1, g2⟩
  | sl hl _ ih =>
    cases h with
    | slNo h1 h2 h3 h4 h5 =>
      obtain ⟨L', g1, g2⟩ := h1.le_of hl (fun i h h' v L hr => ih i h h' hr)
      obtain rfl := nil_of_count g2
      exact ⟨[], .slNo g1 h2 h3 h4 h5, fun x => by simp⟩
    | slNil =>
      obtain rfl := List.eq_nil_of_length_eq_zero (hl.symm.trans rfl)
      exact ⟨[], .slNil, fun x => by simp⟩
    | slOf h1 h2 h3 h4 h5 h6 h7 h8 h9 h10 =>
      obtain ⟨L', g1, g2⟩ := h1.le_of hl (fun i h h' v L hr => ih i h h' hr)
      exact ⟨_, .slOf g1 h2 h3 h4 h5 h6 h7 h8 h9 h10, fun x => by have := g2 x; simp only [List.count_cons]; omega⟩
    | slEx h1 h2 h3 h4 h5 h6 h7 h8 h9 =>
      obtain ⟨L', g1, g2⟩ := h1.le_of hl (fun i h h' v L hr => ih i h h' hr)
      exact ⟨_, .slEx g1 h2 h3 h4 h5 h6 h7 h8 h9, fun x => by have := g2 x; simp only [List.count_cons]; omega⟩

theorem RepE.remove {P : Program} {bl : List (List Nat)} {tmps : Array Value} {k : Nat} {v : AC} : ∀ {env : List (Nat × AC)} {L : List Nat}, RepE P w Pr bl tmps env L → Abs.look k env = some v →
    ∃ x Lv L' env', tmps[k]? = some x ∧ Rep P w Pr bl v x Lv ∧ RepE P w Pr bl tmps env' L' ∧ (∀ j, j ≠ k → Abs.look j env' = Abs.look j env) ∧ ∀ y, Lv.count y + L'.count y = L.count y := by
  intro env
  induction env with
  | nil => intro L h hk; simp [Abs.look] at hk
  | cons e env ih =>
    intro L h hk
    obtain ⟨k', v'⟩ := e
    obtain ⟨L1, L2, x, hx, hr, hE, rfl⟩ := h
    simp only [Abs.look] at hk
    split at hk
    · rename_i e; subst e
      cases hk
      refine ⟨x, L1, L2, env, hx, hr, hE, fun j hj => ?_, fun y => by simp⟩
      simp only [Abs.look, if_neg hj]
    · rename_i hne
      obtain ⟨x', Lv, L', env', h1, h2, h3, h4, h5⟩ := ih hE hk
      refine ⟨x', Lv, L1 ++ L', (k', v') :: env', h1, h2, ⟨L1, L', x, hx, hr, h3, rfl⟩, fun j hj => ?_, fun y => by have := h5 y; simp only [List.count_append]; omega⟩
      simp only [Abs.look]
      split
      · rfl
      · exact h4 j hj

theorem RepE.le {P : Program} {bl : List (List Nat)} {tmps : Array Value} : ∀ {t s : List (Nat × AC)} {L : List Nat}, RepE P w Pr bl tmps s L → (t.map (·.1)).Nodup → (∀ k v, Abs.look k t = some v → ∃ u, Abs.look k s = some u ∧ AC.le u v) →
    ∃ L', RepE P w Pr bl tmps t L' ∧ ∀ x, L'.count x ≤ L.count x := by
  intro t
  induction t with
  | nil => intro s L h _ _; exact ⟨[], rfl, fun x => by simp⟩
  | cons e t ih =>
    intro s L h hn hl
    obtain ⟨k, v⟩ := e
    simp only [List.map_cons, List.nodup_cons] at hn
    obtain ⟨u, hu, hle⟩ := hl k v (by simp [Abs.look])
    obtain ⟨x, Lv, L', env', h1, h2, h3, h4, h5⟩ := h.remove hu
    obtain ⟨Lv', g1, g2⟩ := h2.le hle
    have hmem : ∀ (t : List (Nat × AC)) (j : Nat) (v' : AC), Abs.look j t = some v' → j ∈ t.map (·.1) := by
      intro t
      induction t with
      | nil => intro j v' h; simp [Abs.look] at h
      | cons e t ih =>
        intro j v' h
        simp only [Abs.look] at h
        split at h
        · rename_i e'; simp [e']
        · simp [ih j v' h]
    obtain ⟨L2, r1, r2⟩ := ih h3 hn.2 (fun j v' hj => by
      have hjk : j ≠ k := by
        intro e; subst e
        exact hn.1 (hmem _ _ _ hj)
      obtain ⟨u', hu', hle'⟩ := hl j v' (by simp only [Abs.look, if_neg hjk]; exact hj)
      exact ⟨u', by rw [h4 j hjk]; exact hu', hle'⟩)
    exact ⟨Lv' ++ L2, ⟨Lv', L2, x, h1, g1, r1, rfl⟩, fun y => by have := g2 y; have := r2 y; have := h5 y; simp only [List.count_append]; omega⟩

theorem mem_look' : ∀ (t : List (Nat × AC)) (j : Nat), j ∈ t.map (·.1) → ∃ v, look j t = some v := by
  intro t
  induction t with
  | nil => intro j h; simp at h
  | cons e t ih =>
    intro j h
    simp only [look]
    split
    · exact ⟨_, rfl⟩
    · rename_i hne
      simp only [List.map_cons, List.mem_cons] at h
      rcases h with h | h
      · exact absurd h hne
      · exact ih j h

theorem mem_look : ∀ (t : List (Nat × AC)) (j : Nat) (v : AC), look j t = some v → j ∈ t.map (·.1) := by
  intro t
  induction t with
  | nil => intro j v' h; simp [look] at h
  | cons e t ih =>
    intro j v' h
    simp only [look] at h
    split at h
    · rename_i e'; simp [e']
    · simp [ih j v' h]

theorem SR.le {t : St} (h : SR C st a w Pr b xs vs) (hle : st.le t) : SR C t a w Pr b xs vs := by
  obtain ⟨Le, Ll, Lx, Lk, h⟩ := h
  obtain ⟨h1, h2, h3, h4⟩ := hle
  obtain ⟨L', r1, r2⟩ := h.env.le h1 h2
  refine ⟨L', [], Lx, Lk, ⟨r1, by rw [h3]; rfl, h.reg, by rw [← h4]; exact h.K, fun x => ?_, fun x hx => h.new x ?_, ⟨h1, fun k hk => ?_⟩, by rw [h3]; simp, h.prlt, h.since, h.defers, h.size⟩⟩
  · have := h.cnt x; have := r2 x; simp only [List.count_nil]; omega
  · have := r2 x; simp only [List.count_nil] at hx; omega
  · obtain ⟨v, hv⟩ := mem_look' _ _ hk
    obtain ⟨u, hu, _⟩ := h2 k v hv
    exact h.kE.2 k (mem_look _ _ _ hu)
end
end Go.Proofs.YtkpdlbidadcdjaaDoor.Abs
