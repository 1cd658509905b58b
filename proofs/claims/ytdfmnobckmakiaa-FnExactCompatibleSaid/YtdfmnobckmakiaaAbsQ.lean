/- Code, and a function's body: the weakest precondition gives the contract. No condition. -/
import Derived.Test.YtdfmnobckmakiaaAbsZ
set_option linter.unusedVariables false
set_option linter.unusedSimpArgs false
namespace Go.Proofs.Ytdfmnobckmakiaa.Abs
open Go
section
variable {C : Cx} {st : St} {a : Act} {w : World} {Pr : Addr → Prop} {b : List Nat} {xs : List AC} {vs : List Value} {m : Bool}

def CQ (C : Cx) (Q : Exit → St → Prop) (e : Exit) (a : Act) (w : World) : Prop := ∃ st Pr b, Q e st ∧ SR C st a w Pr b [] []

theorem wC_sound (c : Code) : ∀ (Q : Exit → St → Prop) (st : St) (a : Act) (w : World) (Pr : Addr → Prop) (b : List Nat), dstOk C.N c = true → wC C.P C.fi c Q st → SR C st a w Pr b [] [] → c.wp C.P (CQ C Q) a w := by
  induction c with
  | skip => intro Q st a w Pr b _ h hS; exact wp_skip ⟨st, Pr, b, h, hS⟩
  | region id ops d =>
    intro Q st a w Pr b hd h hS
    cases d with
    | true =>
      obtain ⟨hm, kd, hck, h⟩ := h.1 rfl
      exact draw_sound hm hck hd (k := Q .normal) (fun st' a' w' Pr' b' hk hS => ⟨st', Pr', b', hk, hS⟩) h hS.dropLoc
    | false =>
    replace h := h.2 rfl
    exact wp_region_list (wOps_sound (k := Q .normal) (fun st' a' w' Pr' b' hk hS => ⟨st', Pr', b', hk, hS⟩) _ _ _ _ _ _ hd h hS.dropLoc)
  | seq x y ihx ihy =>
    intro Q st a w Pr b hd h hS
    simp only [dstOk, Bool.and_eq_true] at hd
    refine wp_seq (wp_mono (ihx _ _ _ _ _ _ hd.1 h hS) ?_)
    rintro e a' w' ⟨st', Pr', b', hq, hS'⟩
    cases e with
    | normal => exact ihy _ _ _ _ _ _ hd.2 hq hS'
    | exit id => exact ⟨st', Pr', b', hq, hS'⟩
    | goto l => exact ⟨st', Pr', b', hq, hS'⟩
    | ret => exact ⟨st', Pr', b', hq, hS'⟩
    | panic ch => exact ⟨st', Pr', b', hq, hS'⟩
    | outgrown => exact ⟨st', Pr', b', hq, hS'⟩
  | cond c x y ihx ihy =>
    intro Q st a w Pr b hd h hS
    simp only [dstOk, Bool.and_eq_true] at hd
    unfold wC at h
    split at h
    · rename_i v hv
      have hr := hS.ev c
      rw [hv] at hr
      simp only [share] at hr
      generalize hz : a.eval c = z at hr
      cases hr
      cases v with
      | true => exact wp_cond_true hz (ihx _ _ _ _ _ _ hd.1 (h.1 rfl) hS)
      | false => exact wp_cond_false hz (ihy _ _ _ _ _ _ hd.2 (h.2 rfl) hS)
    · exact h.elim
  | block id c ih =>
    intro Q st a w Pr b hd h hS
    refine wp_block (wp_mono (ih _ _ _ _ _ _ hd h hS) ?_)
    rintro e a' w' ⟨st', Pr', b', hq, hS'⟩
    cases e with
    | normal => exact ⟨st', Pr', b', hq, hS'⟩
    | exit id' =>
      simp only [Exit.inBlock]
      simp only [blockK] at hq
      split
      · rename_i e; rw [if_pos e] at hq; exact ⟨st', Pr', b', hq, hS'⟩
      · rename_i e; rw [if_neg e] at hq; exact ⟨st', Pr', b', hq, hS'⟩
    | goto l => exact ⟨st', Pr', b', hq, hS'⟩
    | ret => exact ⟨st', Pr', b', hq, hS'⟩
    | panic ch => exact ⟨st', Pr', b', hq, hS'⟩
    | outgrown => exact ⟨st', Pr', b', hq, hS'⟩
  | loop c ih =>
    intro Q st a w Pr b hd h hS
    obtain ⟨I, n, s0, hle, hI, hround⟩ := h
    refine wp_loop_ghost (fun n a w => ∃ st Pr b, I n st ∧ SR C st a w Pr b [] []) n ⟨s0, Pr, b, hI, hS.le hle⟩ ?_
    rintro n a w ⟨s, Pr, b, hI, hS⟩
    refine wp_mono (ih _ _ _ _ _ _ hd (hround n s hI) hS) ?_
    rintro e a' w' ⟨st', Pr', b', hq, hS'⟩
    cases e with
    | normal =>
      obtain ⟨n', hlt, s2, hle2, hI2⟩ := hq
      exact ⟨n', hlt, s2, Pr', _, hI2, (hS'.kill _ rfl).le hle2⟩
    | exit id => exact ⟨st', Pr', b', hq, hS'⟩
    | goto l => exact ⟨st', Pr', b', hq, hS'⟩
    | ret => exact ⟨st', Pr', b', hq, hS'⟩
    | panic ch => exact ⟨st', Pr', b', hq, hS'⟩
    | outgrown => exact ⟨st', Pr', b', hq, hS'⟩
  | exit id => intro Q st a w Pr b _ h hS; exact wp_exit ⟨st, Pr, b, h, hS⟩
  | ret => intro Q st a w Pr b _ h hS; exact wp_ret ⟨st, Pr, b, h, hS⟩
  | rangeFunc f ps x y _ _ => intro Q st a w Pr b _ h hS; exact h.elim
  | scope c _ => intro Q st a w Pr b _ h hS; exact h.elim
  | label l => intro Q st a w Pr b _ h hS; exact h.elim
  | goto l => intro Q st a w Pr b _ h hS; exact h.elim
  | refuse s => intro Q st a w Pr b _ h hS; exact h.elim

/-- What the model does for one result. -/
def resRun (tmps : Array Value) : ResultVar → Sem Value
  | .tmp t => pure (tmps.getD t undef)
  | .cell a t => do loadVar t (← asAddr (tmps.getD a undef))

theorem setBox_zero (f : List (List AC)) (K : List (List (List AC))) (i : Nat) (c : List AC) : setBox (f :: K) 0 i c = (f.set i c) :: K := by simp [setBox]

theorem SR.res (h : SR C st a w Pr b xs vs) {x : ResultVar} {v : AC} {st' : St} (hx : resStep C.P st x = some (v, st')) :
    ∃ val, (resRun a.tmps x).run C.P w = .ok val w ∧ SR C st' a w Pr b (v :: xs) (val :: vs) ∧ st'.K.tail = st.K.tail := by
  cases x with
  | tmp t =>
    simp only [resStep, Option.some.injEq, Prod.mk.injEq] at hx
    obtain ⟨rfl, rfl⟩ := hx
    refine ⟨_, rfl, h.take t, ?_⟩
    unfold St.weak; split
    · rfl
    · split <;> rfl
  | cell p t =>
    simp only [resStep] at hx
    split at hx
    · cases hx
    · rename_i i td hp hbad
      split at hx
      · rename_i cells hbox
        split at hx
        · rename_i hlen
          obtain ⟨hlen, hpos⟩ := hlen
          simp only [Option.some.injEq, Prod.mk.injEq] at hx
          obtain ⟨rfl, rfl⟩ := hx
          have hgood : goodTy C.P t := by
            unfold goodTy
            split
            · rename_i e; exact absurd e (by simpa using hbad)
            · trivial
          obtain ⟨Le, Ll, Lx, Lk, h0⟩ := h
          obtain ⟨L, hr, hLc⟩ := h0.get p
          rw [hp] at hr
          generalize hz : a.tmps.getD p undef = z at hr
          cases hr with
          | ptr hgb =>
            rename_i g
            obtain ⟨cur, T, Li, Lr, hh, hcs, h1, hpr, hmem, hcnt, hset⟩ := h0.K.set hbox hgb h0.box_cnt
            simp only [List.drop_zero] at hcs hset
            have hl2 := hcs.length
            have hcell : ∀ j v, cur.toList[j]? = some v → w.cell? ((⟨g, 0, none⟩ : Addr).add j) = some v := by
              intro j v hj
              rw [Addr.add_lit, Nat.zero_add, cell_of_row w _ _ _ _ _ hh]
              simpa using hj
            obtain ⟨val, hrun, hrep⟩ := run_loadVar_of (w := w) hgood hpos (by rw [← hl2]; exact hlen) hcell
            obtain ⟨M, hrepv, hM⟩ := hrep hcs h1
            obtain ⟨L2, hK2, c3⟩ := hset w Pr (shareL cells) cur [] hh hcs.share h1 hpr (fun p hp => ⟨hp, rfl⟩) (fun x hx => ⟨rfl, fun p hp _ => hp⟩) (fun x hx _ => ⟨rfl, fun p hp _ => hp⟩)
            refine ⟨val, ?_, ⟨Le, Ll, M ++ Lx, L2, { h0 with reg := .cons hrepv h0.reg, K := hK2, cnt := fun x => ?_, new := fun x hx => h0.new x ?_ }⟩, ?_⟩
            · simp only [resRun, Sem.run_bind, hz, asAddr, Sem.run_pure, Result.andThen_ok, hrun]
            · have := h0.cnt x; have := c3 x; have := hM x; have := hcnt x
              simp only [List.count_append, List.count_nil] at *; omega
            · have := c3 x; have := hM x; have := hcnt x
              simp only [List.count_append, List.count_nil] at *; omega
            · obtain ⟨f, K0, hf⟩ := h0.K.cons_inv
              rw [hf, setBox_zero]; rfl
        · cases hx
      · cases hx
    · cases hx

theorem SR.ress : ∀ {rs : List ResultVar} {st st' : St} {xs : List AC} {vs : List Value} {us : List AC}, SR C st a w Pr b xs vs → resVs C.P st rs = some (us, st') →
    ∃ vals : List Value, (rs.mapM (resRun a.tmps)).run C.P w = .ok vals w ∧ us.length = vals.length ∧ SR C st' a w Pr b (us.reverse ++ xs) (vals.reverse ++ vs) ∧ st'.K.tail = st.K.tail := by
  intro rs
  induction rs with
  | nil =>
    intro st st' xs vs us h hr
    simp only [resVs, Option.some.injEq, Prod.mk.injEq] at hr
    obtain ⟨rfl, rfl⟩ := hr
    exact ⟨[], by simp, rfl, by simpa using h, rfl⟩
  | cons r rs ih =>
    intro st st' xs vs us h hr
    simp only [resVs] at hr
    split at hr
    · rename_i v st1 h1
      split at hr
      · rename_i us' st2 h2
        simp only [Option.some.injEq, Prod.mk.injEq] at hr
        obtain ⟨rfl, rfl⟩ := hr
        obtain ⟨val, e1, hS1, k1⟩ := h.res h1
        obtain ⟨vals, e2, hl, hS2, k2⟩ := ih hS1 h2
        refine ⟨val :: vals, ?_, by simp [hl], by simpa [List.append_assoc] using hS2, k2.trans k1⟩
        simp only [List.mapM_cons, Sem.run_bind, e1, Result.andThen_ok, e2, Sem.run_pure]
      · cases hr
    · cases hr

theorem low1_rep {P : Program} {b : List Nat} {bl : List (List Nat)} {c c' : AC} {v : Value} {L : List Nat} (e : low1 c = some c') (h : Rep P w Pr (b :: bl) c v L) : Rep P w Pr bl c' v L := by
  unfold low1 at e
  split at e
  · cases h with
    | agg h1 h2 =>
      rw [Option.map_eq_some_iff] at e
      obtain ⟨cs', e1, rfl⟩ := e
      exact .agg (lowCs_rep (bs := [b]) rfl e1 h1) h2
  · exact lowC_rep (bs := [b]) rfl e h

theorem lows_rep {P : Program} {b : List Nat} {bl : List (List Nat)} : ∀ {cs cs' : List AC} {vals : List Value} {L : List Nat}, lows cs = some cs' → Reps P w Pr (b :: bl) cs vals L → Reps P w Pr bl cs' vals L := by
  intro cs
  induction cs with
  | nil => intro cs' vals L e h; cases h; simp only [lows, Option.some.injEq] at e; subst e; exact .nil
  | cons c cs ih =>
    intro cs' vals L e h
    simp only [lows] at e
    split at e
    · rename_i v vs h1 h2
      simp only [Option.some.injEq] at e; subst e
      cases h with
      | cons g1 g2 => exact .cons (low1_rep h1 g1) (ih h2 g2)
    · cases e

theorem leL_rep {P : Program} {bl : List (List Nat)} : ∀ {cs ds : List AC} {vals : List Value} {L : List Nat}, AC.leL cs ds → Reps P w Pr bl cs vals L → ∃ L', Reps P w Pr bl ds vals L' ∧ ∀ x, L'.count x ≤ L.count x := by
  intro cs
  induction cs with
  | nil =>
    intro ds vals L e h
    cases ds with
    | nil => exact ⟨L, h, fun x => Nat.le_refl _⟩
    | cons d ds => exact e.elim
  | cons c cs ih =>
    intro ds vals L e h
    cases ds with
    | nil => exact e.elim
    | cons d ds =>
      cases h with
      | cons g1 g2 =>
        obtain ⟨L1, r1, c1⟩ := g1.le e.1
        obtain ⟨L2, r2, c2⟩ := ih e.2 g2
        exact ⟨L1 ++ L2, .cons r1 r2, fun x => by have := c1 x; have := c2 x; simp only [List.count_append]; omega⟩

theorem argEnv_rep {P : Program} {bl bl' : List (List Nat)} (hm : Moves bl bl' (liftP 1)) : ∀ {args : List AC} {vals : List Value} {La : List Nat} (k : Nat) (tmps : Array Value), Reps P w Pr bl args vals La → (∀ j v, vals[j]? = some v → tmps[k + j]? = some v) →
    ∃ L, RepE P w Pr bl' tmps (argEnv k args) L ∧ ∀ x, L.count x ≤ La.count x := by
  intro args
  induction args with
  | nil => intro vals La k tmps h _; exact ⟨[], rfl, fun x => by simp⟩
  | cons c cs ih =>
    intro vals La k tmps h ht
    cases h with
    | cons h1 h2 =>
      rename_i v vs L1 L2
      obtain ⟨M1, r1, c1⟩ := h1.mapV hm
      obtain ⟨M2, r2, c2⟩ := ih (k + 1) tmps h2 (fun j v hj => by have := ht (j + 1) v (by simpa using hj); rwa [show k + (j + 1) = k + 1 + j by omega] at this)
      exact ⟨M1 ++ M2, ⟨M1, M2, v, by simpa using ht 0 v rfl, r1, r2, rfl⟩, fun x => by have := c1 x; have := c2 x; simp only [List.count_append]; omega⟩

theorem argEnv_keys : ∀ (args : List AC) (k j : Nat), j ∈ (argEnv k args).map (·.1) → k ≤ j ∧ j < k + args.length := by
  intro args
  induction args with
  | nil => intro k j h; simp [argEnv] at h
  | cons c cs ih =>
    intro k j h
    simp only [argEnv, List.map_cons, List.mem_cons] at h
    rcases h with rfl | h
    · simp
    · have := ih (k + 1) j h
      simp only [List.length_cons]; omega

theorem argEnv_nodup : ∀ (args : List AC) (k : Nat), ((argEnv k args).map (·.1)).Nodup := by
  intro args
  induction args with
  | nil => intro k; simp [argEnv]
  | cons c cs ih =>
    intro k
    simp only [argEnv, List.map_cons, List.nodup_cons]
    refine ⟨fun h => ?_, ih (k + 1)⟩
    have := argEnv_keys cs (k + 1) k h
    omega
end

theorem results_run {P : Program} {fn : Func} {tmps : Array Value} {vals : List Value} {w : World} (h : (fn.results.toList.mapM (resRun tmps)).run P w = .ok vals w) :
    (results fn tmps).run P w = .ok (if h : vals.toArray.size = 1 then vals.toArray[0] else .tuple vals.toArray) w := by
  unfold results
  rw [Array.mapM_eq_mapM_toList]
  simp only [Sem.run_bind, Sem.run_map]
  change (((List.mapM (resRun tmps) fn.results.toList).run P w).andThen _).andThen _ = _
  rw [h]
  rfl

/-- A function's contract by its body. -/
theorem ct_body {P : Program} {f : FuncId} {fn : Func} {c : Code} {args : List AC} {K K' : List (List (List AC))} {r : AC} (fi : FI) (hf : P.funcs[f]? = some fn) (hb : fn.body = some c)
    (hname : (fn.name == "runtime.NumGoroutine") = false) (hd : dstOk fn.ntmps c = true) (hl : args.length ≤ fi.n0 ∧ args.length ≤ fn.ntmps)
    (h : wC P fi c (retQ P fn.results.toList r K') { env := argEnv 0 args, loc := [], K := [] :: K }) : Ct P f args K r K' := by
  refine ⟨⟨fn, hf, by rw [hb]; rfl, hname⟩, ?_⟩
  intro w Pr bl vals La Lk hargs hK hcnt hprlt
  have hvl := hargs.length
  let C : Cx := ⟨P, fn.ntmps, fi, w, Pr, La ++ Lk ++ bl.flatten, bl⟩
  let tmps : Array Value := vals.toArray ++ Array.replicate (fn.ntmps - vals.toArray.size) undef
  have htmps : ∀ j v, vals[j]? = some v → tmps[0 + j]? = some v := by
    intro j v hj
    have hjl := (List.getElem?_eq_some_iff.1 hj).1
    show (vals.toArray ++ Array.replicate (fn.ntmps - vals.toArray.size) undef)[0 + j]? = some v
    rw [Nat.zero_add, Array.getElem?_append_left (by simpa using hjl)]
    simpa using hj
  obtain ⟨Le, hE, hEc⟩ := argEnv_rep (moves_lift 1 [[]] bl rfl) 0 tmps hargs htmps
  have hS : SR C { env := argEnv 0 args, loc := [], K := [] :: K } { tmps := tmps, defers := [] } w Pr [] [] [] := by
    refine ⟨Le, [], [], Lk, ⟨hE, rfl, .nil, ⟨[], bl, [], Lk, rfl, ⟨rfl, rfl⟩, hK, rfl⟩, fun x => ?_, fun x hx => ?_, ⟨argEnv_nodup _ _, fun k hk => ?_⟩, by simp, hprlt, ⟨rfl, rfl, rfl, Nat.le_refl _, fun _ _ _ => rfl, fun p hp => ⟨hp, rfl⟩, fun p hp => .inl hp⟩, rfl, ?_⟩⟩
    · have := hcnt x; have := hEc x
      show Le.count x + ([] : List Nat).count x + ([] : List Nat).count x + Lk.count x + ([] :: bl).flatten.count x ≤ 1
      simp only [List.count_append, List.flatten_cons, List.count_nil] at *; omega
    · left
      show x ∈ La ++ Lk ++ bl.flatten
      have hx' : 0 < Le.count x + ([] : List Nat).count x + ([] : List Nat).count x + Lk.count x + ([] :: bl).flatten.count x := hx
      refine List.count_pos_iff.1 ?_
      have := hEc x
      simp only [List.count_append, List.flatten_cons, List.count_nil] at *; omega
    · have := argEnv_keys args 0 k hk
      show fi.isVar k = true
      unfold FI.isVar
      rw [if_pos (by omega)]
    · show (vals.toArray ++ Array.replicate (fn.ntmps - vals.toArray.size) undef).size = fn.ntmps
      simp only [Array.size_append, List.size_toArray, Array.size_replicate]; omega
  have hw := wC_sound (C := C) c _ _ _ _ _ _ hd h hS
  refine calls_of_wp hf hb (wp_mono hw ?_)
  rintro e a' w' ⟨st', Pr', b', hq, hS'⟩
  have key : retOk P fn.results.toList st' r K' → a'.defers = [] ∧ ∃ v, (results fn a'.tmps).run P w' = .ok v w' ∧ ∃ v' Pr' Lr Lk' bl', (.returned v : Ending) = .returned v' ∧ BlExt w.heap.size bl bl' ∧ Rep P w' Pr' bl' r v' Lr ∧ RepK P w' Pr' K' bl' Lk' ∧
      (∀ x, (Lr ++ Lk' ++ bl'.flatten).count x ≤ 1) ∧ (∀ x ∈ Lr ++ Lk', x ∈ La ++ Lk ∨ w.heap.size ≤ x) ∧ (∀ a, Pr' a → a.block < w'.heap.size) ∧ Since w Pr (La ++ Lk ++ bl.flatten) w' Pr' := by
    intro hret
    unfold retOk at hret
    split at hret
    · rename_i us st2 hres
      obtain ⟨hKt, hret⟩ := hret
      obtain ⟨vals', hrun, hul, hS2, hk2⟩ := hS'.ress hres
      have hdef : a'.defers = [] := by obtain ⟨_, _, _, _, h0⟩ := hS'; exact h0.defers
      refine ⟨hdef, _, results_run hrun, ?_⟩
      obtain ⟨Lu, Le2, Ll2, Lx2, Lk2, hu1, h0, hc, hn1⟩ := hS2.out hul
      obtain ⟨f0, K0, hf0⟩ := h0.K.cons_inv
      have hKr := h0.K
      rw [hf0] at hKr
      obtain ⟨b1, bl1, L1, L2, eb, hF1, hK1, eL⟩ := hKr
      have hbl : bl1 = bl := by cases eb; rfl
      subst hbl
      have hK0 : K0 = K' := by rw [← hKt, hf0]; rfl
      subst hK0
      -- the result
      have hfin : ∃ v, (if h : vals'.toArray.size = 1 then vals'.toArray[0] else .tuple vals'.toArray) = v ∧ ∃ Lr, Rep P w' Pr' bl1 r v Lr ∧ ∀ x, Lr.count x ≤ Lu.count x := by
        refine ⟨_, rfl, ?_⟩
        split at hret
        · rename_i v hlow
          have hlr := lows_rep hlow hu1
          have hll := hlr.length
          cases hlr with
          | cons g1 g2 =>
            rename_i val L1 vals2 L2
            cases g2
            obtain ⟨L', r1, c1⟩ := g1.le hret
            refine ⟨L', ?_, fun x => by have := c1 x; simp only [List.append_nil]; omega⟩
            simpa using r1
        · rename_i vs2 hne hlow
          obtain ⟨ws, rfl, hle⟩ := hret
          have hlr := lows_rep hlow hu1
          have hll := hlr.length
          obtain ⟨L', r1, c1⟩ := leL_rep hle hlr
          have hsz : ¬ vals'.toArray.size = 1 := by
            intro e1
            have : vs2.length = 1 := by rw [hll]; simpa using e1
            match vs2, this with
            | [v], _ => exact hne v rfl
          rw [dif_neg hsz]
          exact ⟨L', .tup r1, c1⟩
        · exact hret.elim
      obtain ⟨v, ev, Lr, hr, hrc⟩ := hfin
      rw [ev]
      have hcc : ∀ x, Lr.count x + L2.count x + bl1.flatten.count x ≤ 1 := by
        intro x
        have h1 := hc x; have h2 := hrc x
        have h3 : Lk2.count x = L1.count x + L2.count x := by rw [eL]; simp
        have h4 : (b' :: C.bl0).flatten.count x = b'.count x + bl1.flatten.count x := by
          show (b' :: bl1).flatten.count x = _
          simp
        omega
      refine ⟨v, Pr', Lr, L2, bl1, rfl, .inl rfl, hr, hK1, fun x => by have := hcc x; simp only [List.count_append]; omega, fun x hx => ?_, h0.prlt, h0.since⟩
      have hx' := List.count_pos_iff.2 hx
      have h3 : Lk2.count x = L1.count x + L2.count x := by rw [eL]; simp
      have hin : x ∈ C.F ∨ C.w0.heap.size ≤ x := by
        by_cases h1 : 0 < Lu.count x
        · exact hn1 x h1
        · refine h0.new x ?_
          have := hrc x
          simp only [List.count_append] at hx'
          omega
      rcases hin with hin | hin
      · have hin' : x ∈ La ++ Lk ++ bl1.flatten := hin
        rcases List.mem_append.1 hin' with h1 | h1
        · exact .inl h1
        · have := List.count_pos_iff.2 h1
          have := hcc x
          simp only [List.count_append] at hx'
          omega
      · exact .inr hin
    · exact hret.elim
  cases e with
  | normal => exact key hq
  | ret => exact key hq
  | exit id => exact hq.elim
  | goto l => exact hq.elim
  | panic ch => exact hq.elim
  | outgrown => exact hq.elim
end Go.Proofs.Ytdfmnobckmakiaa.Abs
