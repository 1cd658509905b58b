/- Boxes are read, written and made as the weakest precondition says. No condition. -/
import Derived.Test.YtkpdlbidadcdjaaDoorAbsF
import Derived.Laws.CopyRow
set_option linter.unusedVariables false
set_option linter.unusedSimpArgs false
namespace Go.Proofs.YtkpdlbidadcdjaaDoor.Abs
open Go
section
variable {P : Program} {w : World} {Pr : Addr → Prop}

theorem Rep.flat {bl bl' : List (List Nat)} {c : AC} {v : Value} {L : List Nat} (h : Rep P w Pr bl c v L) (hf : Abs.flat c = true) : Rep P w Pr bl' c v L := by
  cases h with
  | bool => exact .bool
  | int => exact .int
  | str h h' => exact .str h h'
  | slNo h1 h2 h3 h4 h5 => exact .slNo h1 h2 h3 h4 h5
  | slNil => exact .slNil
  | slOf h1 h2 h3 h4 h5 h6 h7 h8 h9 h10 => exact .slOf h1 h2 h3 h4 h5 h6 h7 h8 h9 h10
  | undef => exact .undef
  | slEx h1 h2 h3 h4 h5 h6 h7 h8 h9 => exact .slEx h1 h2 h3 h4 h5 h6 h7 h8 h9
  | nam => simp [Abs.flat] at hf
  | ept => simp [Abs.flat] at hf
  | als => simp [Abs.flat] at hf
  | alsA => simp [Abs.flat] at hf
  | agg => simp [Abs.flat] at hf
  | tup => simp [Abs.flat] at hf
  | ptr => simp [Abs.flat] at hf
  | ref => simp [Abs.flat] at hf
  | fn => simp [Abs.flat] at hf
  | optT => simp [Abs.flat] at hf
  | optF => simp [Abs.flat] at hf

theorem Reps.flat {bl bl' : List (List Nat)} {cs : List AC} {vals : List Value} {L : List Nat} (h : Reps P w Pr bl cs vals L) (hf : cs.all Abs.flat = true) : Reps P w Pr bl' cs vals L := by
  induction cs generalizing vals L with
  | nil => cases h; exact .nil
  | cons c cs ih =>
    simp only [List.all_cons, Bool.and_eq_true] at hf
    cases h with | cons h1 h2 => exact .cons (h1.flat hf.1) (ih h2 hf.2)

theorem Reps.put {bl : List (List Nat)} {cells new : List AC} {vals nvals : List Value} {L Ln : List Nat} (h : Reps P w Pr bl cells vals L) (hn : Reps P w Pr bl new nvals Ln) {off : Nat} (hl : off + new.length ≤ cells.length) :
    ∃ (Lm Lr L' : List Nat), Reps P w Pr bl ((cells.drop off).take new.length) ((vals.drop off).take new.length) Lm ∧
      Reps P w Pr bl (putCells cells off new) (vals.take off ++ nvals ++ vals.drop (off + new.length)) L' ∧ (∀ x, L'.count x = Lr.count x + Ln.count x) ∧ (∀ x, L.count x = Lm.count x + Lr.count x) := by
  have hlen := h.length
  have e : cells = cells.take off ++ ((cells.drop off).take new.length ++ cells.drop (off + new.length)) := by
    rw [← List.drop_drop, List.take_append_drop, List.take_append_drop]
  have h0 := h
  rw [e] at h0
  obtain ⟨v1, v2, L1, L2, rfl, rfl, hl1, h1, h2⟩ := h0.split
  obtain ⟨u1, u2, M1, M2, rfl, rfl, hl2, h3, h4⟩ := h2.split
  simp only [List.length_take, List.length_drop] at hl1 hl2
  have k1 : v1.length = off := by omega
  have k2 : u1.length = new.length := by omega
  have d1 : (v1 ++ (u1 ++ u2)).drop off = u1 ++ u2 := by rw [← k1]; exact List.drop_left
  have d2 : (v1 ++ (u1 ++ u2)).drop (off + new.length) = u2 := by rw [← List.drop_drop, d1, ← k2]; exact List.drop_left
  have d3 : (v1 ++ (u1 ++ u2)).take off = v1 := by rw [← k1]; exact List.take_left
  refine ⟨M1, L1 ++ M2, (L1 ++ Ln) ++ M2, ?_, ?_, fun x => by simp only [List.count_append]; omega, fun x => by simp only [List.count_append]; omega⟩
  · rw [d1, ← k2, List.take_left, k2]; exact h3
  · rw [d2, d3]
    exact (h1.append hn).append h4

theorem shareL_length (cs : List AC) : (shareL cs).length = cs.length := by rw [shareL_eq]; simp

variable {C : Cx} {st : St} {a : Act} {w' : World} {Pr' : Addr → Prop} {b : List Nat} {xs : List AC} {vs : List Value} {m : Bool} {gd : Option Bool} {dst : Option Nat}
  {next : Act → World → Prop} {Q : Exit → Act → World → Prop} {k : AC → St → Prop} {o : Oper}

theorem SRL.box_cnt {Le Ll Lx Lk} (h : SRL C st a w Pr b xs vs Le Ll Lx Lk) : ∀ x, (b :: C.bl0).flatten.count x ≤ 1 := fun x => by have := h.cnt x; omega

theorem lift_box {bl : List (List Nat)} {K : List (List (List AC))} {u i : Nat} {cells : List AC} {L : List Nat} (hK : RepK P w Pr K bl L) (hc : getBox K u i = some cells) :
    Moves (bl.drop u) bl (liftP u) := by
  have hu : u ≤ bl.length := by
    have hlen : ∀ (K : List (List (List AC))) (bl : List (List Nat)) (L : List Nat), RepK P w Pr K bl L → K.length = bl.length := by
      intro K
      induction K with
      | nil => intro bl L h; rw [h.1]; rfl
      | cons f K ih => intro bl L h; obtain ⟨b, bl', L1, L2, rfl, _, hK, _⟩ := h; simp [ih _ _ hK]
    rw [← hlen K bl L hK]
    unfold getBox at hc
    cases hk : K[u]? with
    | none => simp [hk] at hc
    | some f => exact Nat.le_of_lt (List.getElem?_eq_some_iff.1 hk).1
  have := moves_lift u (bl.take u) (bl.drop u) (by simp; omega)
  rwa [List.take_append_drop] at this

theorem rep_len {P : Program} {bl : List (List Nat)} {o : Ow} {n : Nat} {cs : List AC} {base : Option Addr} {l cap : Nat} {L : List Nat} (h : Rep P w Pr bl (.sl o n cs) (.slice base l cap) L) : l = n ∧ n ≤ maxLen := by
  cases h with
  | slNo _ _ _ h4 h5 => exact ⟨rfl, Nat.le_trans h4 h5⟩
  | slNil => exact ⟨rfl, Nat.zero_le _⟩
  | slOf _ _ _ h4 h5 => exact ⟨rfl, Nat.le_trans h4 h5⟩
  | slEx _ _ _ h4 h5 => exact ⟨rfl, Nat.le_trans h4 h5⟩

theorem s_load {t : TypeId} {x : Operand} (ho : o.op = .load t x) (h : SR C st a w Pr b xs vs) (hg : gOk gd) (hD : wD_load C.P C.fi m gd o.dst t x st k) (hn : Goes C m st b a xs vs o.dst next k) :
    o.wp C.P a w next Q := by
  obtain ⟨hpos, hgood, hD⟩ := hD
  obtain ⟨u, hk, hr⟩ := h.un hD hg
  split at hk
  · rename_i uu i off
    split at hk
    · rename_i cells hbox
      obtain ⟨hfit, hk⟩ := hk
      simp only [share] at hr
      generalize hv : a.eval x = z at hr
      cases hr with
      | ptr hgb =>
        rename_i g
        obtain ⟨Le, Ll, Lx, Lk, h0⟩ := h
        obtain ⟨cur, T, Li, Lr, hh, hcs, h1, hpr, hmem, hcnt, hset⟩ := h0.K.set hbox hgb h0.box_cnt
        have hlen := hcs.length
        have hvl : ((cur.toList.drop off).take (C.P.cellsOf t)).length = C.P.cellsOf t := by
          simp only [List.length_take, List.length_drop]; omega
        have hcell : ∀ j v, ((cur.toList.drop off).take (C.P.cellsOf t))[j]? = some v → w.cell? ((⟨g, off, none⟩ : Addr).add j) = some v := by
          intro j v hj
          rw [Addr.add_lit, cell_of_row w _ _ _ _ _ hh]
          rw [List.getElem?_take] at hj
          split at hj
          · rw [List.getElem?_drop] at hj
            simpa using hj
          · cases hj
        obtain ⟨v, hrun, hrep⟩ := run_loadVar_of (w := w) hgood hpos hvl hcell
        have h1' : ∀ v ∈ (cur.toList.drop off).take (C.P.cellsOf t), v.oneCell' = true := fun v hv => h1 v (List.mem_of_mem_drop (List.mem_of_mem_take hv))
        have hrun' : (execOp a.eval o).run C.P w = .ok (.value v) w := by
          simp only [execOp, ho, hv, Instr.loadAt, Instr.sureAddr, Sem.run_bind, Sem.run_pure, Result.andThen_ok, hrun]
        have hmv := lift_box h0.K hbox
        split at hk
        · rename_i hm
          have hm1 : m = true := by cases m <;> simp at hm ⊢
          -- what is loaded is what the box holds
          have hval : ∀ {v0 : Value} {e2 : TypeId}, tdOf C.P t = .slice e2 → C.P.cellsOf t = 1 → cur.toList[off]? = some v0 → v = v0 := by
            intro v0 e2 hts hone hv0
            have e1 : (cur.toList.drop off).take (C.P.cellsOf t) = [v0] := by
              rw [hone]
              obtain ⟨hlt, he⟩ := List.getElem?_eq_some_iff.1 hv0
              rw [List.drop_eq_getElem_cons hlt, he]; rfl
            rw [e1] at hrep h1'
            obtain ⟨M, hM, _⟩ := hrep (Pr := Pr) (bl := []) (cs := [.als 0 none v0 none]) (L := []) (Reps.cons (L := []) (M := []) .alsA .nil) h1'
            have e2 : mkVal C.P t [.als 0 none v0 none] = .als 0 none v0 none := by unfold mkVal; rw [hts]; rfl
            rw [e2] at hM
            generalize v = q at hM
            cases hM
            rfl
          unfold wKeep at hk
          split at hk
          · rename_i e2 dd e n cs hts hdst hco
            obtain ⟨hone, hk⟩ := hk
            obtain ⟨v0, Li1, Lr1, hv0, hr0, hc0, hput⟩ := hcs.takeAt hco
            obtain ⟨L2', hnew, hc2⟩ := hput (.als dd none v0 none) [] .alsA
            obtain ⟨L2, hK2, c3⟩ := hset w Pr _ cur L2' hh hnew h1 hpr (fun p hp => ⟨hp, rfl⟩) (fun x hx => ⟨rfl, fun p hp _ => hp⟩) (fun x hx _ => ⟨rfl, fun p hp _ => hp⟩)
            have e0 := hval hts hone hv0
            subst e0
            refine wp_val hrun' (hn _ _ _ _ Pr b (hk v) ⟨Le, Ll, Li1 ++ Lx, L2, { h0 with reg := .cons (.nam (hr0.flat rfl).nilbl) h0.reg, K := hK2, cnt := fun x => ?_, new := fun x hx => h0.new x ?_ }⟩ fun e => by rw [hm1] at e; cases e)
            · have := h0.cnt x; have := hc0 x; have := hc2 x; have := c3 x; have := hcnt x
              simp only [List.count_append, List.count_nil] at *; omega
            · have := hc0 x; have := hc2 x; have := c3 x; have := hcnt x
              simp only [List.count_append, List.count_nil] at *; omega
          · rename_i e2 dd s y nn hts hdst hco
            obtain ⟨hone, hk⟩ := hk
            obtain ⟨v0, Li1, Lr1, hv0, hr0, hc0, hput⟩ := hcs.takeAt hco
            have e0 := hval hts hone hv0
            subst e0
            split at hk
            · rename_i y' v' hs'
              obtain ⟨rfl, hk⟩ := hk
              have ey : v = y' := by generalize v = q at hr0; cases hr0 <;> rfl
              have hsr := SR.take (⟨Le, Ll, Lx, Lk, h0⟩ : SR C st a w Pr b xs vs) s
              rw [hs'] at hsr
              have hx : a.tmps.getD s undef = v := by
                obtain ⟨_, _, _, _, h9⟩ := hsr
                cases h9.reg with
                | cons q1 q2 => rw [ey]; exact q1.nam_val.symm
              rw [hx] at hsr
              refine wp_val hrun' (hn _ _ _ _ Pr b hk (hsr.weaken fun L hr => ⟨L, hr.nam_inv, fun x => Nat.le_refl _⟩) fun e => by rw [hm1] at e; cases e)
            · exact hk.elim
          · exact hk.elim
        split at hk
        · rename_i hm
          have hm1 : m = true := by cases m <;> simp at hm ⊢
          obtain ⟨Lm, Lr2, L', hmid, hput, c1, c2⟩ := hcs.put (new := shareL ((cells.drop off).take (C.P.cellsOf t))) (nvals := (cur.toList.drop off).take (C.P.cellsOf t)) (Ln := []) (off := off)
            (by obtain ⟨L0, hl0, _⟩ := hcs.take_drop off (C.P.cellsOf t); exact hl0.share) (by rw [shareL_length]; simp only [List.length_take, List.length_drop]; omega)
          have hsl : (shareL ((cells.drop off).take (C.P.cellsOf t))).length = C.P.cellsOf t := by rw [shareL_length]; simp only [List.length_take, List.length_drop]; omega
          rw [hsl] at hmid hput
          have ecur : cur.toList.take off ++ (cur.toList.drop off).take (C.P.cellsOf t) ++ cur.toList.drop (off + C.P.cellsOf t) = cur.toList := by
            rw [List.append_assoc, ← List.drop_drop, List.take_append_drop, List.take_append_drop]
          rw [ecur] at hput
          obtain ⟨L2, hK2, c3⟩ := hset w Pr _ cur L' hh hput h1 hpr (fun p hp => ⟨hp, rfl⟩) (fun x hx => ⟨rfl, fun p hp _ => hp⟩) (fun x hx _ => ⟨rfl, fun p hp _ => hp⟩)
          obtain ⟨Lm', hmidl, c4⟩ := Reps.mapC hmv hmid
          obtain ⟨M, hrepv, c5⟩ := hrep hmidl h1'
          refine wp_val hrun' (hn _ _ _ _ Pr b hk ⟨Le, Ll, M ++ Lx, L2, { h0 with reg := .cons hrepv h0.reg, K := hK2, cnt := fun x => ?_, new := fun x hx => h0.new x ?_ }⟩ fun e => by rw [hm1] at e; cases e)
          · have := h0.cnt x; have := c1 x; have := c2 x; have := c3 x; have := c4 x; have := c5 x; have := hcnt x
            simp only [List.count_append, List.count_nil] at *; omega
          · have := c1 x; have := c2 x; have := c3 x; have := c4 x; have := c5 x; have := hcnt x
            simp only [List.count_append, List.count_nil] at *; omega
        · obtain ⟨L0, hl0, _⟩ := hcs.take_drop off (C.P.cellsOf t)
          obtain ⟨L1, hl1, _⟩ := Reps.mapC hmv hl0
          obtain ⟨M, hrepv, _⟩ := hrep hl1 h1'
          exact wp_quiet ⟨Le, Ll, Lx, Lk, h0⟩ hn hk hrepv.share hrun'
    · exact hk.elim
  · rename_i cells
    obtain ⟨hfit, hk⟩ := hk
    have hfit := hfit hg
    simp only [share] at hr
    generalize hv : a.eval x = z at hr
    cases hr with
    | ref hcs h1 hcc =>
      rename_i vals ad
      have hlen := hcs.length
      have hvl : (vals.take (C.P.cellsOf t)).length = C.P.cellsOf t := by simp only [List.length_take]; omega
      have hcell : ∀ j v, (vals.take (C.P.cellsOf t))[j]? = some v → w.cell? (ad.add j) = some v := by
        intro j v hj
        rw [List.getElem?_take] at hj
        split at hj
        · exact (hcc j v hj).2
        · cases hj
      obtain ⟨v, hrun, hrep⟩ := run_loadVar_of (w := w) hgood hpos hvl hcell
      have h1' : ∀ v ∈ vals.take (C.P.cellsOf t), v.oneCell' = true := fun v hv => h1 v (List.mem_of_mem_take hv)
      have hrun' : (execOp a.eval o).run C.P w = .ok (.value v) w := by
        simp only [execOp, ho, hv, Instr.loadAt, Instr.sureAddr, Sem.run_bind, Sem.run_pure, Result.andThen_ok, hrun]
      obtain ⟨L0, hl0, hc0⟩ := hcs.take_drop 0 (C.P.cellsOf t)
      simp only [List.drop_zero] at hl0
      obtain ⟨M, hrepv, hcM⟩ := hrep hl0 h1'
      have hM : M = [] := by
        cases M with
        | nil => rfl
        | cons y M => have := hcM y; have := hc0 y; simp only [List.count_cons_self, List.count_nil] at *; omega
      subst hM
      exact wp_quiet h hn hk hrepv.nilbl hrun'
  · rename_i s y off
    obtain ⟨hes, hk⟩ := hk
    split at hk
    · rename_i y' e n cells hs
      obtain ⟨rfl, hfit, hk⟩ := hk
      simp only [share] at hr
      generalize hv : a.eval x = z at hr
      cases hr with
      | ept =>
        rename_i g nn cap
        have h0 := h
        obtain ⟨Le, Ll, Lx, Lk, h0⟩ := h0
        obtain ⟨xv, Lv, Lr, hxv, hrs, hLc, hset⟩ := h0.slot hs (by simp)
        have hval := hrs.nam_val
        have hrs := hrs.nam_inv
        rw [← hval] at hrs hxv
        cases hrs with
        | slEx hcs h1 hh hcap hmax hpose hsz htk hpr =>
          rename_i vals L0 cur
          have hlen := hcs.length
          have hvl : ((vals.drop off).take (C.P.cellsOf t)).length = C.P.cellsOf t := by
            simp only [List.length_take, List.length_drop]; omega
          have hcell : ∀ j v, ((vals.drop off).take (C.P.cellsOf t))[j]? = some v → w.cell? ((⟨g, off, none⟩ : Addr).add j) = some v := by
            intro j v hj
            rw [Addr.add_lit, cell_of_row w _ _ _ _ _ hh]
            rw [List.getElem?_take] at hj
            split at hj
            · rw [List.getElem?_drop, ← htk, List.getElem?_take] at hj
              split at hj
              · simpa using hj
              · cases hj
            · cases hj
          obtain ⟨v, hrun, hrep⟩ := run_loadVar_of (w := w) hgood hpos hvl hcell
          have h1' : ∀ v ∈ (vals.drop off).take (C.P.cellsOf t), v.oneCell' = true := fun v hv => h1 v (List.mem_of_mem_drop (List.mem_of_mem_take hv))
          have hrun' : (execOp a.eval o).run C.P w = .ok (.value v) w := by
            simp only [execOp, ho, hv, Instr.loadAt, Instr.sureAddr, Sem.run_bind, Sem.run_pure, Result.andThen_ok, hrun]
          split at hk
          · rename_i te e2 n2 cs2 htd hoff
            obtain ⟨hm, hone, hk⟩ := hk
            obtain ⟨v0, Li, L', hv0, hr0, hc0, hput⟩ := hcs.takeAt hoff
            have htake : (vals.drop off).take (C.P.cellsOf t) = [v0] := by
              have hlt := (List.getElem?_eq_some_iff.1 hv0).1
              have hget := (List.getElem?_eq_some_iff.1 hv0).2
              rw [hone, List.drop_eq_getElem_cons hlt, hget]; simp
            have hrn := hrep (bl := []) (Pr := Pr) (L := Li ++ []) (cs := [AC.nam v0 (.sl (.ex e2) n2 cs2)]) (by rw [htake]; exact .cons (.nam hr0) .nil) h1'
            obtain ⟨M, hrn, _⟩ := hrn
            have hvv : v0 = v := by
              have : mkVal C.P t [AC.nam v0 (.sl (.ex e2) n2 cs2)] = AC.nam v0 (.sl (.ex e2) n2 cs2) := by
                unfold mkVal; rw [htd]; rfl
              rw [this] at hrn
              exact hrn.nam_val
            subst hvv
            have hS : SR C (st.setAt s (.nam (.slice (some ⟨g, 0, none⟩) n cap) (.sl (.ex e) n (cells.set off (.nam v0 (.sl (.ex e2) n2 cs2)))))) a w Pr b xs vs := by
              obtain ⟨L2, k10, k11⟩ := hput _ _ (Rep.nam hr0)
              obtain ⟨eK, kE, kL, hset⟩ := hset (.nam (.slice (some ⟨g, 0, none⟩) n cap) (.sl (.ex e) n (cells.set off (.nam v0 (.sl (.ex e2) n2 cs2)))))
              have hrn : Rep C.P w Pr (b :: C.bl0) (.nam (.slice (some ⟨g, 0, none⟩) n cap) (.sl (.ex e) n (cells.set off (.nam v0 (.sl (.ex e2) n2 cs2))))) xv (g :: L2) := by
                rw [← hval]; exact .nam (.slEx k10 h1 hh hcap hmax hpose hsz htk hpr)
              obtain ⟨Le', Ll', g1, g2, g3⟩ := hset w Pr _ _ (fun c z M hM _ => hM) hrn
              refine ⟨Le', Ll', Lx, Lk, { h0 with env := g1, loc := g2, K := by rw [eK]; exact h0.K, cnt := fun z => ?_, new := fun z hz => h0.new z ?_, kE := kE, kL := kL }⟩
              · have := h0.cnt z; have := g3 z; have := hLc z; have := k11 z; have := hc0 z
                simp only [List.count_cons] at *; omega
              · have := g3 z; have := hLc z; have := k11 z; have := hc0 z
                simp only [List.count_cons] at *; omega
            refine wp_val hrun' (hn _ _ _ _ _ b (hk v0) (hS.push ?_) fun e => by rw [hm] at e; cases e)
            cases hr0 with
            | slEx _ _ _ h4 h5 => exact .als (Nat.le_trans h4 h5) (.inr ⟨_, rfl⟩)
            | slNil => exact .als (Nat.zero_le _) (.inl ⟨rfl, rfl⟩)
          · obtain ⟨L0, hl0, _⟩ := hcs.take_drop off (C.P.cellsOf t)
            obtain ⟨M, hrepv, _⟩ := hrep hl0 h1'
            exact wp_quiet h hn hk hrepv.share.nilbl hrun'
    · exact hk.elim
  · exact hk.elim

/-- The cells of a value. -/
theorem rep_cells {bl : List (List Nat)} {v : AC} {x : Value} {L : List Nat} (h : Rep P w Pr bl v x L) (hu : isUndef v = false) (ht : ∀ vs, v ≠ .tup vs) (ho : ∀ g u, v ≠ .opt g u) :
    Reps P w Pr bl (cellsOfV v) x.cells.toList L ∧ ∀ y ∈ x.cells.toList, y.oneCell' = true := by
  cases h with
  | agg h1 h2 => exact ⟨by simpa [cellsOfV, Value.cells] using h1, by simpa [Value.cells] using h2⟩
  | tup => exact absurd rfl (ht _)
  | optT => exact absurd rfl (ho _ _)
  | optF => exact absurd rfl (ho _ _)
  | undef => simp [isUndef] at hu
  | bool => exact ⟨by simpa [cellsOfV, Value.cells] using Reps.cons (P := P) (w := w) (Pr := Pr) .bool .nil, by simp [Value.cells, Value.oneCell']⟩
  | int => exact ⟨by simpa [cellsOfV, Value.cells] using Reps.cons (P := P) (w := w) (Pr := Pr) .int .nil, by simp [Value.cells, Value.oneCell']⟩
  | str h h' => exact ⟨by simpa [cellsOfV, Value.cells] using Reps.cons (.str h h') .nil, by simp [Value.cells, Value.oneCell']⟩
  | slNo h1 h2 h3 h4 h5 => exact ⟨by simpa [cellsOfV, Value.cells] using Reps.cons (.slNo h1 h2 h3 h4 h5) .nil, by simp [Value.cells, Value.oneCell']⟩
  | slNil => exact ⟨by simpa [cellsOfV, Value.cells] using Reps.cons (P := P) (w := w) (Pr := Pr) .slNil .nil, by simp [Value.cells, Value.oneCell']⟩
  | slOf h1 h2 h3 h4 h5 h6 h7 h8 h9 h10 => exact ⟨by simpa [cellsOfV, Value.cells] using Reps.cons (.slOf h1 h2 h3 h4 h5 h6 h7 h8 h9 h10) .nil, by simp [Value.cells, Value.oneCell']⟩
  | slEx h1 h2 h3 h4 h5 h6 h7 h8 h9 => exact ⟨by simpa [cellsOfV, Value.cells] using Reps.cons (.slEx h1 h2 h3 h4 h5 h6 h7 h8 h9) .nil, by simp [Value.cells, Value.oneCell']⟩
  | nam h => simp [isUndef] at hu
  | als => simp [isUndef] at hu
  | alsA => simp [isUndef] at hu
  | ept => exact ⟨by simpa [cellsOfV, Value.cells] using Reps.cons (P := P) (w := w) (Pr := Pr) .ept .nil, by simp [Value.cells, Value.oneCell']⟩
  | ptr hg => exact ⟨by simpa [cellsOfV, Value.cells] using Reps.cons (.ptr hg) .nil, by simp [Value.cells, Value.oneCell']⟩
  | ref h1 h2 h3 => exact ⟨by simpa [cellsOfV, Value.cells] using Reps.cons (.ref h1 h2 h3) .nil, by simp [Value.cells, Value.oneCell']⟩
  | fn h0 h1 => exact ⟨by simpa [cellsOfV, Value.cells] using Reps.cons (.fn h0 h1) .nil, by simp [Value.cells, Value.oneCell']⟩

theorem mapM_low_ok {u : Nat} {v : AC} {new : List AC} (h : (cellsOfV v).mapM (lowC u) = some new) : (∀ vs, v ≠ .tup vs) ∧ ∀ g u, v ≠ .opt g u := by
  constructor
  · rintro vs rfl; simp [cellsOfV, lowC] at h
  · rintro g u rfl; simp [cellsOfV, lowC] at h

theorem bl_split {bl : List (List Nat)} {K : List (List (List AC))} {u i : Nat} {cells : List AC} {L : List Nat} (hK : RepK P w Pr K bl L) (hc : getBox K u i = some cells) : (bl.take u).length = u := by
  have hlen : ∀ (K : List (List (List AC))) (bl : List (List Nat)) (L : List Nat), RepK P w Pr K bl L → K.length = bl.length := by
    intro K
    induction K with
    | nil => intro bl L h; rw [h.1]; rfl
    | cons f K ih => intro bl L h; obtain ⟨b, bl', L1, L2, rfl, _, hK, _⟩ := h; simp [ih _ _ hK]
  have : u < K.length := by
    unfold getBox at hc
    cases hk : K[u]? with
    | none => simp [hk] at hc
    | some f => exact (List.getElem?_eq_some_iff.1 hk).1
  rw [hlen K bl L hK] at this
  simp; omega

theorem s_store {t : TypeId} {x y : Operand} (ho : o.op = .store t x y) (h : SR C st a w Pr b xs vs) (hg : gOk gd) (hD : wD_store C.P C.fi m gd dst t x y st k) (hn : Goes C m st b a xs vs o.dst next k) :
    o.wp C.P a w next Q := by
  obtain ⟨rfl, hpos, hgood, hD⟩ := hD
  obtain ⟨p, hk, hr⟩ := h.un hD hg
  obtain ⟨v, st', hk, hS, hKe, _⟩ := h.wT hk hg
  split at hk
  · rename_i uu i off hx0
    split at hk
    · rename_i cells hbox
      obtain ⟨hfit, hnu, hvl, hk⟩ := hk
      split at hk
      · rename_i new hnew
        simp only [share] at hr
        generalize hv : a.eval x = z at hr
        cases hr with
        | ptr hgb =>
          rename_i g
          obtain ⟨Le, Ll, Lx, Lk, h0⟩ := hS
          have hbox' : getBox st'.K uu i = some cells := hbox
          obtain ⟨cur, T, Li, Lr, hh, hcs, h1, hpr, hmem, hcnt, hset⟩ := h0.K.set hbox' hgb h0.box_cnt
          have hreg := h0.reg
          generalize hvv : a.eval y = vv at hreg
          cases hreg with
          | cons g1 g2 =>
            rename_i Lv Lx'
            obtain ⟨hc1, hc2⟩ := rep_cells g1 hnu (mapM_low_ok hnew).1 (mapM_low_ok hnew).2
            have hbs := bl_split h0.K hbox'
            have hc3 := hc1
            rw [← List.take_append_drop uu (b :: C.bl0)] at hc3
            have hlow := lowCs_rep hbs hnew hc3
            have hnl : new.length = C.P.cellsOf t := by rw [hlow.length, ← hc1.length, hvl]
            have hsz : vv.cells.size = C.P.cellsOf t := by rw [← Array.length_toList, ← hc1.length, hvl]
            obtain ⟨Lm, Lr2, L', _, hput, c1, c2⟩ := hcs.put hlow (off := off) (by omega)
            have hcl := hcs.length
            have hrun : (execOp a.eval o).run C.P w = .ok .skip (w.setRow g (cur.toList.take off ++ vv.cells.toList ++ cur.toList.drop (off + vv.cells.toList.length)).toArray) := by
              have hst := run_storeCells_at C.P g off T vv.cells.toList 0 cur w hh (by simp only [Array.length_toList]; rw [hsz, ← Array.length_toList, ← hcl]; omega) hc2
              simp only [Nat.add_zero] at hst
              simp only [execOp, ho, hv, hvv, Instr.storeAt, Instr.sureAddr, storeVar, Sem.run_bind, Sem.run_pure, Result.andThen_ok, run_sizeOf_of hpos, hsz, ne_eq, not_true_eq_false, if_false, hst]
            have hnotg : ∀ x, 0 < Le.count x + Ll.count x + (Lv ++ Lx').count x + Lk.count x → x ≠ g := by
              intro x hx e; subst e
              have := h0.cnt x
              have := List.count_pos_iff.2 hmem
              omega
            have hkept : ∀ x, x ≠ g → Kept w Pr (w.setRow g (cur.toList.take off ++ vv.cells.toList ++ cur.toList.drop (off + vv.cells.toList.length)).toArray) Pr x :=
              fun x hx => ⟨setRow_other w g x _ hx, fun p hp _ => hp⟩
            have hp : ∀ p, Pr p → Pr p ∧ (w.setRow g (cur.toList.take off ++ vv.cells.toList ++ cur.toList.drop (off + vv.cells.toList.length)).toArray).cell? p = w.cell? p :=
              fun p hp => ⟨hp, cell_setRow_other w g _ p (hpr p hp)⟩
            have hput' : Reps C.P w Pr ((b :: C.bl0).drop uu) (putCells cells off new) (cur.toList.take off ++ vv.cells.toList ++ cur.toList.drop (off + vv.cells.toList.length)) L' := by
              have e : vv.cells.toList.length = new.length := by rw [Array.length_toList, hsz, hnl]
              rw [e]; exact hput
            have hput'' := hput'.kept (w' := w.setRow g (cur.toList.take off ++ vv.cells.toList ++ cur.toList.drop (off + vv.cells.toList.length)).toArray) hp (fun x hx => hkept x (hnotg x (by
              have := c1 x; have := c2 x; have := hcnt x; have := List.count_pos_iff.2 hx
              simp only [List.count_append]; omega)))
            obtain ⟨L2, hK2, c3⟩ := hset _ Pr _ _ L' (setRow_heap w g cur _ T _ hh) hput'' (fun y hy => by
                simp only [List.mem_append] at hy
                rcases hy with (hy | hy) | hy
                · exact h1 y (List.mem_of_mem_take hy)
                · exact hc2 y hy
                · exact h1 y (List.mem_of_mem_drop hy)) hpr hp
              (fun x hx => hkept x (hnotg x (by have := hcnt x; have := List.count_pos_iff.2 hx; omega))) (fun x hx hne => hkept x hne)
            have hs := h0.since
            have hgF : g ∈ C.F ∨ C.w0.heap.size ≤ g := h0.new g (by have := List.count_pos_iff.2 hmem; omega)
            unfold Oper.wp
            rw [hrun]
            show next (a.put o.dst undef) _
            refine hn .undef _ undef _ Pr b hk ⟨Le, Ll, Lx', L2, ?_⟩ (fun e => by cases e)
            refine { env := h0.env.kept hp (fun x hx => hkept x (hnotg x (by have := List.count_pos_iff.2 hx; omega))),
                     loc := h0.loc.kept hp (fun x hx => hkept x (hnotg x (by have := List.count_pos_iff.2 hx; omega))),
                     reg := by simpa using Reps.cons (L := []) .undef (g2.kept hp (fun x hx => hkept x (hnotg x (by have := List.count_pos_iff.2 hx; simp only [List.count_append]; omega)))),
                     K := hK2, cnt := fun x => ?_, new := fun x hx => h0.new x ?_, kE := h0.kE, kL := h0.kL, prlt := fun p hp' => by simpa using h0.prlt p hp', since := ?_, defers := h0.defers, size := h0.size }
            · have := h0.cnt x; have := c1 x; have := c2 x; have := c3 x; have := hcnt x
              simp only [List.count_append] at *
              have hlv : Lv.count x + Lx'.count x + Le.count x + Ll.count x + Lk.count x + (b :: C.bl0).flatten.count x ≤ 1 := by omega
              omega
            · have := c1 x; have := c2 x; have := c3 x; have := hcnt x
              simp only [List.count_append] at *
              omega
            · exact ⟨hs.os, hs.tape, hs.output, by simpa using hs.size, fun y hy hF => (setRow_other w g y _ (fun e => by subst e; rcases hgF with h | h; exact hF h; omega)).trans (hs.block y hy hF),
                fun p hp' => ⟨(hs.prot p hp').1, (cell_setRow_other w g _ p (hpr p (hs.prot p hp').1)).trans (hs.prot p hp').2⟩, hs.newPr⟩
      · exact hk.elim
    · exact hk.elim
  · rename_i s yv off hx0
    obtain ⟨hes, hk⟩ := hk
    split at hk
    · rename_i y' e n cells hs
      obtain ⟨hyy, hfit, hnu, hvl, hfl, hk⟩ := hk
      subst hyy
      simp only [share] at hr
      generalize hv : a.eval x = z at hr
      cases hr with
      | ept =>
        rename_i g nn cap
        obtain ⟨Le, Ll, Lx, Lk, h0⟩ := hS
        obtain ⟨xv, Ls, Lr, hxv, hrs, hLc, hset⟩ := h0.slot hs (by simp)
        have hval := hrs.nam_val
        have hrs := hrs.nam_inv
        rw [← hval] at hrs hxv
        cases hrs with
        | slEx hcs h1 hh hcap hmax hpose hsz htk hpr =>
          rename_i vals L0 cur
          have hreg := h0.reg
          generalize hvv : a.eval y = vv at hreg
          cases hreg with
          | cons g1 g2 =>
            rename_i Lv Lx'
            have ht1 : ∀ vs, v ≠ .tup vs := by rintro vs rfl; simp [cellsOfV, flat] at hfl
            have ht2 : ∀ g u, v ≠ .opt g u := by rintro g u rfl; simp [cellsOfV, flat] at hfl
            obtain ⟨hc1, hc2⟩ := rep_cells g1 hnu ht1 ht2
            have hc3 := hc1.flat (bl' := []) hfl
            have hsz2 : vv.cells.size = C.P.cellsOf t := by rw [← Array.length_toList, ← hc1.length, hvl]
            have hcl := hcs.length
            have hvlen : vals.length = n * C.P.cellsOf e := by
              rw [← htk, List.length_take, Array.length_toList, hsz, Nat.min_eq_left (Nat.mul_le_mul_right _ hcap)]
            obtain ⟨Lm, Lr2, L', _, hput, c1, c2⟩ := hcs.put hc3 (off := off) (by rw [hvl]; omega)
            have hrun : (execOp a.eval o).run C.P w = .ok .skip (w.setRow g (cur.toList.take off ++ vv.cells.toList ++ cur.toList.drop (off + vv.cells.toList.length)).toArray) := by
              have hst := run_storeCells_at C.P g off e vv.cells.toList 0 cur w hh (by simp only [Array.length_toList]; rw [hsz2, hsz]; have := Nat.mul_le_mul_right (C.P.cellsOf e) hcap; omega) hc2
              simp only [Nat.add_zero] at hst
              simp only [execOp, ho, hv, hvv, Instr.storeAt, Instr.sureAddr, storeVar, Sem.run_bind, Sem.run_pure, Result.andThen_ok, run_sizeOf_of hpos, hsz2, ne_eq, not_true_eq_false, if_false, hst]
            have hgc : 1 ≤ (g :: L0).count g := by simp
            have hnotg : ∀ x, 0 < Lr.count x + L0.count x + (Lv ++ Lx').count x + Lk.count x + (b :: C.bl0).flatten.count x → x ≠ g := by
              intro x hx e; subst e
              have := h0.cnt x; have := hLc x
              simp only [List.count_cons_self] at *
              omega
            have hkept : ∀ x, x ≠ g → Kept w Pr (w.setRow g (cur.toList.take off ++ vv.cells.toList ++ cur.toList.drop (off + vv.cells.toList.length)).toArray) Pr x :=
              fun x hx => ⟨setRow_other w g x _ hx, fun p hp _ => hp⟩
            have hp : ∀ p, Pr p → Pr p ∧ (w.setRow g (cur.toList.take off ++ vv.cells.toList ++ cur.toList.drop (off + vv.cells.toList.length)).toArray).cell? p = w.cell? p :=
              fun p hp => ⟨hp, cell_setRow_other w g _ p (hpr p hp)⟩
            have hput' : Reps C.P w Pr [] (putCells cells off (cellsOfV v)) (vals.take off ++ vv.cells.toList ++ vals.drop (off + vv.cells.toList.length)) L' := by
              have e : vv.cells.toList.length = (cellsOfV v).length := by rw [Array.length_toList, hsz2, hvl]
              rw [e]; exact hput
            have hput'' := hput'.kept (w' := w.setRow g (cur.toList.take off ++ vv.cells.toList ++ cur.toList.drop (off + vv.cells.toList.length)).toArray) hp (fun x hx => hkept x (hnotg x (by
              have := c1 x; have := c2 x; have := List.count_pos_iff.2 hx
              simp only [List.count_append] at *; omega)))
            obtain ⟨eK, kE, kL, hset⟩ := hset (.nam (.slice (some ⟨g, 0, none⟩) n cap) (.sl (.ex e) n (putCells cells off (cellsOfV v))))
            have hnew : Rep C.P (w.setRow g (cur.toList.take off ++ vv.cells.toList ++ cur.toList.drop (off + vv.cells.toList.length)).toArray) Pr (b :: C.bl0)
                (.nam (.slice (some ⟨g, 0, none⟩) n cap) (.sl (.ex e) n (putCells cells off (cellsOfV v)))) xv (g :: L') := by
              rw [← hval]
              have hlv : vv.cells.toList.length = C.P.cellsOf t := by rw [Array.length_toList, hsz2]
              have hfit2 : off + C.P.cellsOf t ≤ n * C.P.cellsOf e := by omega
              refine .nam (.slEx hput'' (fun y hy => ?_) (setRow_heap w g cur _ e _ hh) hcap hmax hpose ?_ ?_ hpr)
              · simp only [List.mem_append] at hy
                rcases hy with (hy | hy) | hy
                · exact h1 y (List.mem_of_mem_take hy)
                · exact hc2 y hy
                · exact h1 y (List.mem_of_mem_drop hy)
              · have hm := Nat.mul_le_mul_right (C.P.cellsOf e) hcap
                simp only [List.size_toArray, List.length_append, List.length_take, List.length_drop, Array.length_toList, hsz2, hsz]
                omega
              · have hm := Nat.mul_le_mul_right (C.P.cellsOf e) hcap
                rw [← htk, hlv]
                simp only [List.take_take, List.drop_take]
                rw [Nat.min_eq_left (by omega)]
                rw [List.take_append, List.take_append, List.take_of_length_le (l := List.take off cur.toList) (by rw [List.length_take]; omega),
                  List.take_of_length_le (l := vv.cells.toList) (by rw [List.length_take, Array.length_toList, Array.length_toList, hsz2, hsz, Nat.min_eq_left (by omega)]; omega)]
                congr 2
                simp only [List.length_append, List.length_take, Array.length_toList, hsz2, hsz]
                rw [Nat.min_eq_left (by omega)]
            obtain ⟨Le', Ll', e1, e2, e3⟩ := hset _ Pr _ (g :: L') (fun c z M hM hin => hM.kept hp fun x hx => hkept x (hnotg x (by have := List.count_pos_iff.2 (hin x hx); omega))) hnew
            have hs2 := h0.since
            have hgF : g ∈ C.F ∨ C.w0.heap.size ≤ g := h0.new g (by have := hLc g; omega)
            unfold Oper.wp
            rw [hrun]
            show next (a.put o.dst undef) _
            refine hn .undef _ undef _ Pr b hk ⟨Le', Ll', Lx', Lk, ?_⟩ (fun e => by cases e)
            refine { env := e1, loc := e2,
                     reg := by simpa using Reps.cons (L := []) .undef (g2.kept hp (fun x hx => hkept x (hnotg x (by have := List.count_pos_iff.2 hx; simp only [List.count_append]; omega)))),
                     K := by rw [eK]; exact h0.K.kept hp (fun x hx => hkept x (hnotg x (by have := List.count_pos_iff.2 hx; omega))) (fun x hx => hkept x (hnotg x (by have := List.count_pos_iff.2 hx; omega))),
                     cnt := fun x => ?_, new := fun x hx => h0.new x ?_, kE := kE, kL := kL, prlt := fun p hp' => by simpa using h0.prlt p hp', since := ?_, defers := h0.defers, size := h0.size }
            · have := h0.cnt x; have := c1 x; have := c2 x; have := e3 x; have := hLc x
              simp only [List.count_append, List.count_cons] at *
              omega
            · have := c1 x; have := c2 x; have := e3 x; have := hLc x
              simp only [List.count_append, List.count_cons] at *
              omega
            · exact ⟨hs2.os, hs2.tape, hs2.output, by simpa using hs2.size, fun y hy hF => (setRow_other w g y _ (fun e => by subst e; rcases hgF with h | h; exact hF h; omega)).trans (hs2.block y hy hF),
                fun p hp' => ⟨(hs2.prot p hp').1, (cell_setRow_other w g _ p (hpr p (hs2.prot p hp').1)).trans (hs2.prot p hp').2⟩, hs2.newPr⟩
    · exact hk.elim
  · exact hk.elim
end
end Go.Proofs.YtkpdlbidadcdjaaDoor.Abs
