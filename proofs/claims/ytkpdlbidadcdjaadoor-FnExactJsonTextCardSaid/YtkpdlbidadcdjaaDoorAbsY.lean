/- Regions that draw their order. No condition. -/
import Derived.Test.YtkpdlbidadcdjaaDoorAbsX
import Derived.Orders
set_option linter.unusedVariables false
set_option linter.unusedSectionVars false
set_option linter.unusedSimpArgs false
namespace Go.Proofs.YtkpdlbidadcdjaaDoor.Abs
open Go

section
variable {A : Nat → Prop} {P : Program} {fi : FI} [hq : Quiet fi] {m kd : Bool} {gd : Option Bool} {dst : Option Nat} {s s' s0 st st' : St} {ops : List Oper} {o x y : Oper}

theorem Ag.put {v : AC} (h : Ag A s s') : Ag A (s.put fi dst v) (s'.put fi dst v) :=
  ⟨fun t ht => ⟨by rw [put_env, put_env, (h.1 t ht).1], by rw [put_loc, put_loc, (h.1 t ht).2]⟩, by rw [put_K, put_K]; exact h.2⟩
/-- A change of some slots alone. -/
structure Loc (X : Nat → Prop) (T : St → St) : Prop where
  out : ∀ s t, ¬ X t → look t (T s).env = look t s.env ∧ look t (T s).loc = look t s.loc
  inn : ∀ s s', (∀ t, X t → look t s.env = look t s'.env ∧ look t s.loc = look t s'.loc) → ∀ t, X t → look t (T s).env = look t (T s').env ∧ look t (T s).loc = look t (T s').loc
  K : ∀ s, (T s).K = s.K
theorem Loc.id {X : Nat → Prop} : Loc X (fun s => s) := ⟨fun _ _ _ => ⟨rfl, rfl⟩, fun _ _ h => h, fun _ => rfl⟩
theorem Loc.mono {X Y : Nat → Prop} {T : St → St} (h : Loc X T) (hs : ∀ t, X t → Y t) : Loc Y T :=
  ⟨fun s t ht => h.out s t (fun hx => ht (hs t hx)), fun s s' hag t ht => by
    by_cases hx : X t
    · exact h.inn s s' (fun t ht => hag t (hs t ht)) t hx
    · rw [(h.out s t hx).1, (h.out s t hx).2, (h.out s' t hx).1, (h.out s' t hx).2]; exact hag t ht, h.K⟩
theorem Loc.comp {X : Nat → Prop} {T U : St → St} (h : Loc X T) (g : Loc X U) : Loc X (fun s => U (T s)) :=
  ⟨fun s t ht => ⟨(g.out _ t ht).1.trans (h.out s t ht).1, (g.out _ t ht).2.trans (h.out s t ht).2⟩, fun s s' hag t ht => g.inn _ _ (h.inn s s' hag) t ht, fun s => (g.K _).trans (h.K s)⟩
theorem weak_env {t j : Nat} : look j (s.weak t).env = if j = t ∧ look t s.loc = none then (look t s.env).map share else look j s.env := by
  unfold St.weak
  split
  · rename_i v e; rw [if_neg (by rw [e]; simp)]
  · rename_i e
    split
    · rename_i v e2
      simp only [look_setE', e, e2]
      by_cases h : j = t
      · simp [h]
      · simp [h]
    · rename_i e2
      by_cases h : j = t
      · subst h; simp [e, e2]
      · simp [h]
theorem weak_loc {t j : Nat} : look j (s.weak t).loc = if j = t then (look t s.loc).map share else look j s.loc := by
  unfold St.weak
  split
  · rename_i v e; simp only [look_setE', e]; by_cases h : j = t <;> simp [h]
  · rename_i e
    split
    · by_cases h : j = t
      · subst h; simp [e]
      · simp [h]
    · by_cases h : j = t
      · subst h; simp [e]
      · simp [h]
theorem Loc.weak {t : Nat} : Loc (fun j => j = t) (fun s => s.weak t) :=
  ⟨fun s j hj => ⟨by rw [weak_env, if_neg (fun h => hj h.1)], by rw [weak_loc, if_neg hj]⟩, fun s s' hag j hj => by
    subst hj
    obtain ⟨h1, h2⟩ := hag j rfl
    simp only [weak_env, weak_loc, h1, h2, and_self], fun s => St.weak_K⟩
theorem Loc.put {dst : Option Nat} {v : AC} : Loc (fun j => dst = some j) (fun s => s.put fi dst v) :=
  ⟨fun s j hj => ⟨by rw [put_env, if_neg (fun h => hj h.1)], by rw [put_loc, if_neg (fun h => hj h.1)]⟩, fun s s' hag j hj => by
    obtain ⟨h1, h2⟩ := hag j hj
    rw [put_env, put_loc, put_env, put_loc, h1, h2]; exact ⟨rfl, rfl⟩, fun s => put_K⟩
theorem wT_det (x : Operand) (st : St) : ∃ (Pre : Prop) (v : AC) (T : St → St), Loc (fun t => x = .tmp t) T ∧ ∀ st', (∀ t, x = .tmp t → st'.get t = st.get t) → ∀ k, wT fi m none st' x k ↔ (Pre ∧ k v (T st')) := by
  cases x with
  | tmp t =>
    have key : ∀ z : AC, ∃ (Pre : Prop) (v : AC) (T : St → St), Loc (fun j => Operand.tmp t = .tmp j) T ∧ ∀ (st' : St) (k : AC → St → Prop), (un none z fun v => if m && fi.tk.elem t then k v (st'.weak t) else k (Abs.share v) st') ↔ (Pre ∧ k v (T st')) := by
      intro z
      by_cases hc : (m && fi.tk.elem t) = true
      · have hl : Loc (fun j => Operand.tmp t = .tmp j) (fun s => s.weak t) := Loc.weak.mono (by rintro j rfl; rfl)
        simp only [hc, if_true]
        cases z with
        | opt g v => exact ⟨gOk none → g = true, v, _, hl, fun st' k => Iff.rfl⟩
        | nam y v => exact ⟨True, v, _, hl, fun st' k => by simp⟩
        | _ => exact ⟨True, _, _, hl, fun st' k => by rw [true_and] <;> exact Iff.rfl⟩
      · simp only [hc, if_false]
        cases z with
        | opt g v => exact ⟨gOk none → g = true, Abs.share v, _, Loc.id, fun st' k => Iff.rfl⟩
        | nam y v => exact ⟨True, Abs.share v, _, Loc.id, fun st' k => by simp⟩
        | _ => exact ⟨True, _, _, Loc.id, fun st' k => by rw [true_and] <;> exact Iff.rfl⟩
    obtain ⟨Pre, v, T, hl, h⟩ := key (st.get t)
    exact ⟨Pre, v, T, hl, fun st' hs k => by show (un none (st'.get t) _) ↔ _; rw [hs t rfl]; exact h st' k⟩
  | const c => exact ⟨True, ofV c, _, Loc.id, fun st' _ k => by rw [true_and] <;> exact Iff.rfl⟩
  | func f => exact ⟨True, .fn f [], _, Loc.id, fun st' _ k => by rw [true_and] <;> exact Iff.rfl⟩
  | global g => exact ⟨True, .undef, _, Loc.id, fun st' _ k => by rw [true_and] <;> exact Iff.rfl⟩
theorem wTs_det : ∀ (l : List Operand) (st : St), ∃ (Pre : Prop) (vs : List AC) (T : St → St), Loc (fun t => Operand.tmp t ∈ l) T ∧
    ∀ st', (∀ t, Operand.tmp t ∈ l → look t st'.env = look t st.env ∧ look t st'.loc = look t st.loc) → ∀ k, wTs fi m none l st' k ↔ (Pre ∧ k vs (T st')) := by
  intro l
  induction l with
  | nil => intro st; exact ⟨True, [], _, Loc.id, fun st' _ k => by rw [true_and] <;> exact Iff.rfl⟩
  | cons x l ih =>
    intro st
    obtain ⟨P1, v1, T1, L1, h1⟩ := wT_det (fi := fi) (m := m) x st
    obtain ⟨P2, v2, T2, L2, h2⟩ := ih (T1 st)
    refine ⟨P1 ∧ P2, v1 :: v2, _, (L1.mono (Y := fun t => Operand.tmp t ∈ x :: l) (by rintro t rfl; exact List.mem_cons_self)).comp (L2.mono (fun t ht => List.mem_cons_of_mem _ ht)), fun st' hs k => ?_⟩
    show wT fi m none st' x (fun v s => wTs fi m none l s fun vs s => k (v :: vs) s) ↔ _
    rw [h1 st' (fun t e => get_of_looks (hs t (by rw [e]; exact List.mem_cons_self))), h2 (T1 st') (fun t ht => ?_), and_assoc]
    by_cases e : x = .tmp t
    · exact L1.inn st' st (fun t e => hs t (by rw [e]; exact List.mem_cons_self)) t e
    · rw [(L1.out st' t e).1, (L1.out st' t e).2, (L1.out st t e).1, (L1.out st t e).2]; exact hs t (List.mem_cons_of_mem _ ht)
theorem slot_det {op : Go.Op} (hs : slotOp op = true) (st : St) : ∃ (Pre : Prop) (av : AC) (T : St → St), Loc (fun t => Operand.tmp t ∈ op.operands.toList) T ∧
    ∀ st', (∀ t, Operand.tmp t ∈ op.operands.toList → look t st'.env = look t st.env ∧ look t st'.loc = look t st.loc) → ∀ k, wDo P fi true none dst op st' k ↔ (Pre ∧ k av (T st')) := by
  unfold slotOp at hs
  split at hs
  · rename_i x
    cases x with
    | tmp t =>
      have key : ∀ z : AC, ∃ (Pre : Prop) (v : AC) (T : St → St), Loc (fun j => Operand.tmp t = .tmp j) T ∧ ∀ (st' : St) (k : AC → St → Prop), (if (true && fi.takes dst) = true then un none z fun v => k v (st'.weak t) else match z with
          | .nam y v => if isX v then k (.als t none y (lenOf v)) st' else k (Abs.share v) st'
          | v => un none v fun v => k (Abs.share v) st') ↔ (Pre ∧ k v (T st')) := by
        intro z
        by_cases hc : (true && fi.takes dst) = true
        · have hl : Loc (fun j => Operand.tmp t = .tmp j) (fun s => s.weak t) := Loc.weak.mono (by rintro j rfl; rfl)
          simp only [hc, if_true]
          cases z with
          | opt g v => exact ⟨gOk none → g = true, v, _, hl, fun st' k => Iff.rfl⟩
          | nam y v => exact ⟨True, v, _, hl, fun st' k => by simp⟩
          | _ => exact ⟨True, _, _, hl, fun st' k => by rw [true_and] <;> exact Iff.rfl⟩
        · simp only [hc, if_false]
          cases z with
          | opt g v => exact ⟨gOk none → g = true, Abs.share v, _, Loc.id, fun st' k => Iff.rfl⟩
          | nam y v =>
            by_cases hX : isX v = true
            · exact ⟨True, .als t none y (lenOf v), _, Loc.id, fun st' k => by simp only [hX, if_true, true_and, Bool.false_eq_true, if_false]⟩
            · exact ⟨True, Abs.share v, _, Loc.id, fun st' k => by simp only [hX, if_false, true_and, Bool.false_eq_true]⟩
          | _ => exact ⟨True, _, _, Loc.id, fun st' k => by rw [true_and] <;> exact Iff.rfl⟩
      obtain ⟨Pre, v, T, hl, h⟩ := key (st.get t)
      refine ⟨Pre, v, T, hl.mono (by rintro j e; simp [Op.operands, e]), fun st' hs k => ?_⟩
      show wD_move P fi true none dst (.tmp t) st' k ↔ _
      simp only [wD_move]
      rw [get_of_looks (hs t (by simp [Op.operands]))]
      exact h st' k
    | const c => exact ⟨True, ofV c, _, Loc.id, fun st' _ k => by rw [true_and] <;> exact Iff.rfl⟩
    | func f => exact ⟨True, .fn f [], _, Loc.id, fun st' _ k => by rw [true_and] <;> exact Iff.rfl⟩
    | global g => exact ⟨True, .undef, _, Loc.id, fun st' _ k => by rw [true_and] <;> exact Iff.rfl⟩
  · rename_i x
    obtain ⟨P1, v1, T1, L1, h1⟩ := wT_det (fi := fi) (m := true) x st
    exact ⟨P1, v1, T1, L1.mono (by rintro t rfl; simp [Op.operands]), fun st' hs k => h1 st' (fun t e => get_of_looks (hs t (by simp [Op.operands, e]))) k⟩
  · rename_i t ps
    obtain ⟨P1, v1, T1, L1, h1⟩ := wTs_det (fi := fi) (m := true) (ps.toList.map (·.2)) st
    have hc : ∃ (p : Prop) (v : AC), ∀ κ : AC → Prop, (match tdOf P t, zeroOf P t with
      | .struct fs, some zs => (fs.all fun f => decide (0 < f.2.1)) = true ∧ (zs.all storable) = true ∧ match fillC (fun i => (fs[i]?).map fun f => (f.1, f.2.1)) zs ((ps.toList.map (·.1)).zip v1) with
        | some cs => κ (.agg cs)
        | none => False
      | _, _ => False) ↔ (p ∧ κ v) := by
      split
      · split
        · exact ⟨_, _, fun κ => and_assoc.symm⟩
        · exact ⟨False, .undef, fun κ => by simp⟩
      · exact ⟨False, .undef, fun κ => by simp⟩
    obtain ⟨p, v, hc⟩ := hc
    refine ⟨P1 ∧ p, v, T1, L1.mono (by intro j hj; simpa [Op.operands] using hj), fun st' hs k => ?_⟩
    refine (h1 st' (fun t ht => hs t (by simpa [Op.operands] using ht)) _).trans ?_
    rw [and_assoc]
    exact and_congr_right fun _ => hc fun v => k v (T1 st')
  · rename_i t n ps
    obtain ⟨P1, v1, T1, L1, h1⟩ := wTs_det (fi := fi) (m := true) (ps.toList.map (·.2)) st
    have hc : ∃ (p : Prop) (v : AC), ∀ κ : AC → Prop, (match tdOf P t with
      | .slice e => 0 < P.cellsOf e ∧ n * P.cellsOf e ≤ 16777216 ∧ match zeroOf P e with
        | some zs => (zs.all storable) = true ∧ zs.length = P.cellsOf e ∧ match fillC (fun i => some (i * P.cellsOf e, P.cellsOf e)) (List.replicate n zs).flatten ((ps.toList.map (·.1)).zip v1) with
          | some cs => (cs.all Abs.flat) = true ∧ κ (.sl (if fi.keeps dst then .ex e else .of e) n cs)
          | none => False
        | none => False
      | _ => False) ↔ (p ∧ κ v) := by
      split
      · split
        · split
          · exact ⟨_ ∧ _ ∧ _ ∧ _ ∧ _, _, fun κ => by simp only [and_assoc]; exact Iff.rfl⟩
          · exact ⟨False, .undef, fun κ => by simp⟩
        · exact ⟨False, .undef, fun κ => by simp⟩
      · exact ⟨False, .undef, fun κ => by simp⟩
    obtain ⟨p, v, hc⟩ := hc
    refine ⟨P1 ∧ p, v, T1, L1.mono (by intro j hj; simpa [Op.operands] using hj), fun st' hs k => ?_⟩
    refine (h1 st' (fun t ht => hs t (by simpa [Op.operands] using ht)) _).trans ?_
    rw [and_assoc]
    exact and_congr_right fun _ => hc fun v => k v (T1 st')
  · rename_i args ts
    have hops : ∀ y, y ∈ args.toList → y ∈ (Op.call ⟨.builtin .append, args, ts⟩).operands.toList := by
      intro y hy; simp [Op.operands, Call.operands]; simpa using hy
    show ∃ (Pre : Prop) (av : AC) (T : St → St), _ ∧ ∀ st', _ → ∀ k, wBuiltin P fi true (fi.keeps dst) none .append args.toList ts.toList st' k ↔ _
    generalize args.toList = al at hops ⊢
    generalize ts.toList = tl
    by_cases hsh : ∃ q x t1 t2, al = [.tmp q, x] ∧ tl = [t1, t2]
    · obtain ⟨q, x, t1, t2, rfl, rfl⟩ := hsh
      have hq1 := hops (.tmp q) (by simp)
      have hx1 : ∀ j, x = .tmp j → Operand.tmp j ∈ (Op.call ⟨.builtin .append, args, ts⟩).operands.toList := fun j e => hops _ (by simp [e])
      have L0 : Loc (fun t => Operand.tmp t ∈ (Op.call ⟨.builtin .append, args, ts⟩).operands.toList) (fun s => s.weak q) := Loc.weak.mono (by rintro j rfl; exact hq1)
      obtain ⟨P1, v1, T1, L1, h1⟩ := wT_det (fi := fi) (m := true) x (st.weak q)
      by_cases hstr : tdOf P t2 = .str
      · have hc : ∃ (p : Prop) (v : AC), ∀ κ : AC → Prop, wAppendS P (fi.keeps dst) (tdOf P t1) (st.get q) v1 κ ↔ (p ∧ κ v) := by
          unfold wAppendS
          split
          · split
            · exact ⟨_ ∧ _ ∧ _ ∧ _, _, fun κ => by simp only [and_assoc]; exact Iff.rfl⟩
            · exact ⟨False, .undef, fun κ => by simp⟩
          · exact ⟨False, .undef, fun κ => by simp⟩
        obtain ⟨p, v, hc⟩ := hc
        refine ⟨P1 ∧ p, v, _, L0.comp (L1.mono fun t ht => hx1 t ht), fun st' hs k => ?_⟩
        have hg := get_of_looks (s := st') (s' := st) (hs q hq1)
        have hsh : wBuiltin P fi true (fi.keeps dst) none .append [.tmp q, x] [t1, t2] st' k ↔ (wT fi true none (st'.weak q) x fun v st'' => wAppendS P (fi.keeps dst) (tdOf P t1) (st'.get q) v fun v => k v st'') := by
          show (true = true ∧ match tdOf P t2 with
            | .str => wT fi true none (st'.weak q) x fun v st'' => wAppendS P (fi.keeps dst) (tdOf P t1) (st'.get q) v fun v => k v st''
            | _ => t1 = t2 ∧ wT fi true none (st'.weak q) x fun v st'' => wAppend P (fi.keeps dst) (tdOf P t1) (st'.get q) v fun v => k v st'') ↔ _
          rw [hstr]; exact and_iff_right rfl
        rw [hsh, hg]
        refine Iff.trans ((h1 (st'.weak q) (fun t e => get_of_looks (L0.inn st' st hs t (hx1 t e))) _).trans (and_congr_right fun _ => hc fun v => k v (T1 (st'.weak q)))) ?_
        simp [and_assoc]
      have hc : ∃ (p : Prop) (v : AC), ∀ κ : AC → Prop, wAppend P (fi.keeps dst) (tdOf P t1) (st.get q) v1 κ ↔ (p ∧ κ v) := by
        unfold wAppend
        split
        · split
          · exact ⟨_ ∧ _ ∧ _ ∧ _ ∧ _, _, fun κ => by simp only [and_assoc]; exact Iff.rfl⟩
          · exact ⟨False, .undef, fun κ => by simp⟩
        · split
          · exact ⟨_ ∧ _ ∧ _ ∧ _ ∧ _, _, fun κ => by simp only [and_assoc]; exact Iff.rfl⟩
          · exact ⟨False, .undef, fun κ => by simp⟩
        · exact ⟨False, .undef, fun κ => by simp⟩
      obtain ⟨p, v, hc⟩ := hc
      refine ⟨t1 = t2 ∧ P1 ∧ p, v, _, L0.comp (L1.mono fun t ht => hx1 t ht), fun st' hs k => ?_⟩
      have hg := get_of_looks (s := st') (s' := st) (hs q hq1)
      have hsh : wBuiltin P fi true (fi.keeps dst) none .append [.tmp q, x] [t1, t2] st' k ↔ (t1 = t2 ∧ wT fi true none (st'.weak q) x fun v st'' => wAppend P (fi.keeps dst) (tdOf P t1) (st'.get q) v fun v => k v st'') := by
        show (true = true ∧ match tdOf P t2 with
          | .str => wT fi true none (st'.weak q) x fun v st'' => wAppendS P (fi.keeps dst) (tdOf P t1) (st'.get q) v fun v => k v st''
          | _ => t1 = t2 ∧ wT fi true none (st'.weak q) x fun v st'' => wAppend P (fi.keeps dst) (tdOf P t1) (st'.get q) v fun v => k v st'') ↔ _
        split
        · rename_i e; exact absurd e hstr
        · exact and_iff_right rfl
      rw [hsh, hg]
      refine Iff.trans (and_congr_right fun _ => (h1 (st'.weak q) (fun t e => get_of_looks (L0.inn st' st hs t (hx1 t e))) _).trans (and_congr_right fun _ => hc fun v => k v (T1 (st'.weak q)))) ?_
      simp [and_assoc]
    · have hF : ∀ st' k, wBuiltin P fi true (fi.keeps dst) none .append al tl st' k ↔ False := by
        intro st' k
        refine ⟨fun hw => ?_, False.elim⟩
        match al, tl, hw, hsh with
        | [.tmp q, x], [t1, t2], _, hsh => exact hsh ⟨q, x, t1, t2, rfl, rfl⟩
        | [], _, hw, _ => exact hw
        | [h], _, hw, _ => cases h <;> exact hw
        | h :: _ :: _ :: _, _, hw, _ => cases h <;> exact hw
        | [.const c, x], _, hw, _ => exact hw
        | [.func c, x], _, hw, _ => exact hw
        | [.global c, x], _, hw, _ => exact hw
        | [.tmp q, x], [], hw, _ => exact hw
        | [.tmp q, x], [_], hw, _ => exact hw
        | [.tmp q, x], _ :: _ :: _ :: _, hw, _ => exact hw
      exact ⟨False, .undef, _, Loc.id, fun st' _ k => by rw [hF]; simp⟩
  · cases hs
theorem slot_op {x : Oper} (hs : slotOp x.op = true) (hg : x.guard = none) (st : St) : ∃ (Pre : Prop) (T : St → St), Loc (fun t => t ∈ looks ops x ∨ x.dst = some t) T ∧
    ∀ st', (∀ t, t ∈ looks ops x ∨ x.dst = some t → look t st'.env = look t st.env ∧ look t st'.loc = look t st.loc) → ∀ k, wOpD P fi kd ops x k st' ↔ (Pre ∧ k (T st')) := by
  obtain ⟨Pre, av, T, L, h⟩ := slot_det (P := P) (fi := fi) (dst := x.dst) hs st
  have hsub : ∀ t, Operand.tmp t ∈ x.op.operands.toList → t ∈ looks ops x := fun t ht => List.mem_append_left _ (mem_reads.2 (by simpa using ht))
  refine ⟨Pre, _, (L.mono (Y := fun t => t ∈ looks ops x ∨ x.dst = some t) fun t ht => .inl (hsub t ht)).comp ((Loc.put (fi := fi) (v := av)).mono fun t ht => .inr ht), fun st' hst k => ?_⟩
  have e1 : wDoD P fi true none x.dst x.op = wDo P fi true none x.dst x.op := by
    funext st k
    unfold slotOp at hs
    split at hs
    · rename_i e; rw [e]; rfl
    · rename_i e; rw [e]; rfl
    · rename_i e; rw [e]; rfl
    · rename_i e; rw [e]; rfl
    · rename_i e; rw [e]; rfl
    · cases hs
  have e2 : isTL fi x.dst x.op = false := by
    unfold slotOp at hs
    split at hs
    · rename_i e; rw [e]; rfl
    · rename_i e; rw [e]; rfl
    · rename_i e; rw [e]; rfl
    · rename_i e; rw [e]; rfl
    · rename_i e; rw [e]; rfl
    · cases hs
  simp only [wOpD, hg]
  rw [e1]
  refine (h st' (fun t ht => hst t (.inl (hsub t ht))) _).trans ?_
  simp [tlOk, e2, L.K]
theorem apartD_spec {x y : Oper} (h : apartD ops x y = true) : slotOp x.op = true ∧ x.guard = none ∧ ∀ t, t ∈ looks ops x ∨ x.dst = some t → t ∉ looks ops y ∧ y.dst ≠ some t := by
  simp only [apartD, Bool.and_eq_true] at h
  obtain ⟨⟨⟨h1, h2⟩, h3⟩, h4⟩ := h
  refine ⟨h1, by simpa using h2, fun t ht => ?_⟩
  rcases ht with ht | ht
  · have := List.all_eq_true.1 h3 t ht
    simp only [Bool.and_eq_true, Bool.not_eq_true', bne_iff_ne, ne_eq] at this
    exact ⟨fun hm => by have := this.1; simp [hm] at this, this.2⟩
  · rw [ht] at h4
    simp only [Bool.and_eq_true, Bool.not_eq_true', bne_iff_ne, ne_eq] at h4
    exact ⟨fun hm => by have := h4.1; simp [hm] at this, h4.2⟩
theorem swapD1 {k : St → Prop} (hd : apartD ops x y = true) (hR : Resp k) (h : wOpD P fi kd ops x (wOpD P fi kd ops y k) st) : wOpD P fi kd ops y (wOpD P fi kd ops x k) st := by
  obtain ⟨hs, hg, hdis⟩ := apartD_spec hd
  obtain ⟨Pre, T, hL, hx⟩ := slot_op (P := P) (fi := fi) (kd := kd) (ops := ops) hs hg st
  obtain ⟨hp, h1⟩ := (hx st (fun _ _ => ⟨rfl, rfl⟩) _).1 h
  have hno : ∀ t, t ∈ looks ops x ∨ x.dst = some t → Operand.tmp t ∉ y.op.operands.toList := fun t ht hm => (hdis t ht).1 (List.mem_append_left _ (mem_reads.2 (by simpa using hm)))
  refine wOpD_rel (A := fun t => ¬ (t ∈ looks ops x ∨ x.dst = some t)) (k := k) (st := T st) (st' := st) ⟨fun t ht => hL.out st t ht, hL.K st⟩ (fun t ht hX => (hdis t hX).1 ht) (fun v s1 s1' hag f f' hc hfl hh => ?_) h1
  have e1 : ∀ t, t ∈ looks ops x ∨ x.dst = some t → look t (s1'.put fi y.dst v).env = look t st.env ∧ look t (s1'.put fi y.dst v).loc = look t st.loc := fun t ht => by
    rw [put_env, put_loc, if_neg (fun e => (hdis t ht).2 e.1), if_neg (fun e => (hdis t ht).2 e.1)]; exact f' t (hno t ht)
  refine (hx _ e1 k).2 ⟨hp, hR (s1.put fi y.dst v) _ ⟨fun t _ => ?_, by rw [put_K, hL.K, put_K]; exact hag.2⟩ hh⟩
  by_cases hX : t ∈ looks ops x ∨ x.dst = some t
  · have a := f t (hno t hX)
    have b := hL.inn (s1'.put fi y.dst v) st e1 t hX
    rw [put_env, put_loc, if_neg (fun e => (hdis t hX).2 e.1), if_neg (fun e => (hdis t hX).2 e.1), a.1, a.2, b.1, b.2]; exact ⟨rfl, rfl⟩
  · have a := hL.out (s1'.put fi y.dst v) t hX
    have b := hag.1 t hX
    rw [a.1, a.2, put_env, put_loc, put_env, put_loc, b.1, b.2]; exact ⟨rfl, rfl⟩
theorem swapD2 {k : St → Prop} (hd : apartD ops y x = true) (hR : Resp k) (h : wOpD P fi kd ops x (wOpD P fi kd ops y k) st) : wOpD P fi kd ops y (wOpD P fi kd ops x k) st := by
  obtain ⟨hs, hg, hdis⟩ := apartD_spec hd
  obtain ⟨Pre, T, hL, hy⟩ := slot_op (P := P) (fi := fi) (kd := kd) (ops := ops) hs hg st
  have hno : ∀ t, t ∈ looks ops y ∨ y.dst = some t → Operand.tmp t ∉ x.op.operands.toList := fun t ht hm => (hdis t ht).1 (List.mem_append_left _ (mem_reads.2 (by simpa using hm)))
  have e1 : ∀ (v : AC) (s1 : St), Fr x.op.operands.toList st s1 → ∀ t, t ∈ looks ops y ∨ y.dst = some t → look t (s1.put fi x.dst v).env = look t st.env ∧ look t (s1.put fi x.dst v).loc = look t st.loc := fun v s1 f t ht => by
    rw [put_env, put_loc, if_neg (fun e => (hdis t ht).2 e.1), if_neg (fun e => (hdis t ht).2 e.1)]; exact f t (hno t ht)
  have hp : Pre := wOpD_const (c := Pre) (wOpD_rel (A := fun _ => True) (st' := st) (k' := fun _ => Pre) Ag.refl (fun _ _ => trivial) (fun v s1 s1' hag f f' hc hfl hh =>
    ((hy (s1.put fi x.dst v) (e1 v s1 f) k).1 hh).1) h)
  refine (hy st (fun _ _ => ⟨rfl, rfl⟩) _).2 ⟨hp, ?_⟩
  refine wOpD_rel (A := fun t => ¬ (t ∈ looks ops y ∨ y.dst = some t)) (st := st) (st' := T st) (k := fun s => wOpD P fi kd ops y k s) ⟨fun t ht => ⟨(hL.out st t ht).1.symm, (hL.out st t ht).2.symm⟩, (hL.K st).symm⟩ (fun t ht hX => (hdis t hX).1 ht)
    (fun v s1 s1' hag f f' hc hfl hh => ?_) h
  have h2 := ((hy (s1.put fi x.dst v) (e1 v s1 f) k).1 hh).2
  refine hR _ _ ⟨fun t _ => ?_, by rw [put_K, hL.K, put_K]; exact hag.2⟩ h2
  by_cases hX : t ∈ looks ops y ∨ y.dst = some t
  · have a := f' t (hno t hX)
    have b := hL.inn (s1.put fi x.dst v) st (e1 v s1 f) t hX
    rw [b.1, b.2, put_env, put_loc, if_neg (fun e => (hdis t hX).2 e.1), if_neg (fun e => (hdis t hX).2 e.1), a.1, a.2]; exact ⟨rfl, rfl⟩
  · have a := hL.out (s1.put fi x.dst v) t hX
    have b := hag.1 t hX
    rw [a.1, a.2, put_env, put_loc, put_env, put_loc, b.1, b.2]; exact ⟨rfl, rfl⟩
theorem getBox_push {f : List (List AC)} {K : List (List (List AC))} {u i : Nat} {c cs : List AC} (h : getBox (f :: K) u i = some c) : getBox ((f ++ [cs]) :: K) u i = some c := by
  cases u with
  | zero =>
    simp only [getBox, List.getElem?_cons_zero, Option.bind_some] at h ⊢
    rw [List.getElem?_append_left (List.getElem?_eq_some_iff.1 h).1]; exact h
  | succ u => simpa only [getBox, List.getElem?_cons_succ] using h
theorem wOpD_load {t : TypeId} {p : Operand} {k : St → Prop} (hop : o.op = .load t p) (hg : o.guard = none) : wOpD P fi kd ops o k st ↔ wD_load P fi true none o.dst t p st (fun v s => ((kd = true → isCall o.op = true → s.K = st.K) ∧ tlOk P fi o.dst o.op v) ∧ k (s.put fi o.dst v)) := by
  unfold wOpD; rw [hg]
  have e : ∀ k, wDoD P fi true none o.dst o.op st k = wD_load P fi true none o.dst t p st k := fun k => by rw [hop]; rfl
  exact Iff.of_eq (e _)
theorem wOpD_alloc {t : TypeId} {k : St → Prop} (hop : o.op = .alloc t) (hg : o.guard = none) : wOpD P fi kd ops o k st ↔ wD_alloc P fi true none o.dst t st (fun v s => ((kd = true → isCall o.op = true → s.K = st.K) ∧ tlOk P fi o.dst o.op v) ∧ k (s.put fi o.dst v)) := by
  unfold wOpD; rw [hg]
  have e : ∀ k, wDoD P fi true none o.dst o.op st k = wD_alloc P fi true none o.dst t st k := fun k => by rw [hop]; rfl
  exact Iff.of_eq (e _)
theorem put_comm {d e : Nat} {v w : AC} (h : d ≠ e) : Ag (fun _ => True) ((s.put fi (some d) v).put fi (some e) w) ((s.put fi (some e) w).put fi (some d) v) := by
  refine ⟨fun t _ => ?_, by rw [put_K, put_K, put_K, put_K]⟩
  have h0 : ¬ (d = t ∧ e = t) := fun h1 => h (h1.1.trans h1.2.symm)
  constructor
  · simp only [put_env, Option.some.injEq]
    by_cases a : d = t <;> by_cases b : e = t <;> simp_all
  · simp only [put_loc, Option.some.injEq]
    by_cases a : d = t <;> by_cases b : e = t <;> simp_all
theorem setK_put {d : Option Nat} {v : AC} {K1 : List (List (List AC))} : ({ s with K := K1 } : St).put fi d v = { (s.put fi d v) with K := K1 } := by
  unfold St.put; split
  · rfl
  · split <;> rfl
theorem ev_put {d : Nat} {v : AC} {p : Operand} (h : (tmpOf p).elem d = false) : (s.put fi (some d) v).ev p = s.ev p := by
  cases p with
  | tmp t =>
    have : d ≠ t := by rintro rfl; simp [tmpOf] at h
    exact put_get (fun e => this (Option.some.inj e))
  | _ => rfl
theorem swapL {k : St → Prop} (hl : apartL fi x y = true) (hR : Resp k) (h : wOpD P fi kd ops x (wOpD P fi kd ops y k) st) : wOpD P fi kd ops y (wOpD P fi kd ops x k) st := by
  unfold apartL at hl
  split at hl
  · rename_i t p t2 d e hx hy hdx hdy
    simp only [Bool.and_eq_true, Bool.not_eq_true', bne_iff_ne, ne_eq, Option.isNone_iff_eq_none] at hl
    obtain ⟨⟨⟨⟨hgx, hgy⟩, htk⟩, hne⟩, hpe⟩ := hl
    rw [wOpD_load hx hgx] at h
    rw [wOpD_alloc hy hgy]
    obtain ⟨h1, h2, h3⟩ := h
    have hal : isCall y.op = false := by rw [hy]; rfl
    have hal2 : ∀ v, tlOk P fi y.dst y.op v := fun v hv => by rw [hy] at hv; cases hv
    have hld : isCall x.op = false := by rw [hx]; rfl
    have htk' : fi.takes x.dst = false := by rw [hdx]; exact htk
    have hl2 : ∀ v, tlOk P fi x.dst x.op v := fun v hv => by rw [hx] at hv; simp only [isTL, htk'] at hv; cases hv
    -- what the load yields, whatever box is new
    have key : ∃ av, (wOpD P fi kd ops y k (st.put fi (some d) av)) ∧ ∀ f K cs, st.K = f :: K → ∀ (S : St), S.K = (f ++ [cs]) :: K → S.ev p = st.ev p → ∀ k' : St → Prop, k' (S.put fi (some d) av) → wOpD P fi kd ops x k' S := by
      cases hq0 : st.ev p with
      | ptr u i off =>
        rw [hq0] at h3
        have h3 : match getBox st.K u i with | some cells => _ | none => False := h3
        cases hb : getBox st.K u i with
        | none => simp only [hb] at h3
        | some cells =>
          simp only [hb, Bool.true_and, hq.es, Bool.false_and, htk', Bool.false_eq_true, if_false] at h3
          rw [hdx] at h3
          refine ⟨_, h3.2.2, fun f K cs hK S hS hev k' hk' => ?_⟩
          rw [wOpD_load hx hgx]
          refine ⟨h1, h2, ?_⟩
          rw [hev]
          have hb2 : getBox S.K u i = some cells := by rw [hS]; rw [hK] at hb; exact getBox_push hb
          show match getBox S.K u i with | some cells => _ | none => False
          simp only [hb2, Bool.true_and, hq.es, Bool.false_and, htk', Bool.false_eq_true, if_false]
          rw [hdx]
          exact ⟨h3.1, ⟨by simp, by have := hl2; rw [hdx] at this; exact this _⟩, hk'⟩
      | ref cells =>
        rw [hq0] at h3
        rw [hdx] at h3
        refine ⟨_, h3.2.2, fun f K cs hK S hS hev k' hk' => ?_⟩
        rw [wOpD_load hx hgx]
        refine ⟨h1, h2, ?_⟩
        rw [hev]
        rw [hdx]
        exact ⟨h3.1, ⟨by simp, by have := hl2; rw [hdx] at this; exact this _⟩, hk'⟩
      | opt g v => 
        rw [hq0] at h3
        cases v with
        | ptr u i off =>
          have h3 : _ ∧ match getBox st.K u i with | some cells => _ | none => False := h3
          cases hb : getBox st.K u i with
          | none => simp only [hb, and_false] at h3
          | some cells =>
            simp only [hb, Bool.true_and, hq.es, Bool.false_and, htk', Bool.false_eq_true, if_false] at h3
            rw [hdx] at h3
            refine ⟨_, h3.2.2.2, fun f K cs hK S hS hev k' hk' => ?_⟩
            rw [wOpD_load hx hgx]
            refine ⟨h1, h2, ?_⟩
            rw [hev]
            have hb2 : getBox S.K u i = some cells := by rw [hS]; rw [hK] at hb; exact getBox_push hb
            show _ ∧ match getBox S.K u i with | some cells => _ | none => False
            simp only [hb2, Bool.true_and, hq.es, Bool.false_and, htk', Bool.false_eq_true, if_false]
            rw [hdx]
            exact ⟨h3.1, h3.2.1, ⟨by simp, by have := hl2; rw [hdx] at this; exact this _⟩, hk'⟩
        | ref cells =>
          rw [hdx] at h3
          refine ⟨_, h3.2.2.2, fun f K cs hK S hS hev k' hk' => ?_⟩
          rw [wOpD_load hx hgx]
          refine ⟨h1, h2, ?_⟩
          rw [hev]
          rw [hdx]
          exact ⟨h3.1, h3.2.1, ⟨by simp, by have := hl2; rw [hdx] at this; exact this _⟩, hk'⟩
        | ept q y o => have := h3.2.1; rw [hq.es] at this; cases this
        | _ => exact h3.2.elim
      | nam g v => 
        rw [hq0] at h3
        cases v with
        | ptr u i off =>
          have h3 : match getBox st.K u i with | some cells => _ | none => False := h3
          cases hb : getBox st.K u i with
          | none => simp only [hb] at h3
          | some cells =>
            simp only [hb, Bool.true_and, hq.es, Bool.false_and, htk', Bool.false_eq_true, if_false] at h3
            rw [hdx] at h3
            refine ⟨_, h3.2.2, fun f K cs hK S hS hev k' hk' => ?_⟩
            rw [wOpD_load hx hgx]
            refine ⟨h1, h2, ?_⟩
            rw [hev]
            have hb2 : getBox S.K u i = some cells := by rw [hS]; rw [hK] at hb; exact getBox_push hb
            show match getBox S.K u i with | some cells => _ | none => False
            simp only [hb2, Bool.true_and, hq.es, Bool.false_and, htk', Bool.false_eq_true, if_false]
            rw [hdx]
            exact ⟨h3.1, ⟨by simp, by have := hl2; rw [hdx] at this; exact this _⟩, hk'⟩
        | ref cells =>
          rw [hdx] at h3
          refine ⟨_, h3.2.2, fun f K cs hK S hS hev k' hk' => ?_⟩
          rw [wOpD_load hx hgx]
          refine ⟨h1, h2, ?_⟩
          rw [hev]
          rw [hdx]
          exact ⟨h3.1, ⟨by simp, by have := hl2; rw [hdx] at this; exact this _⟩, hk'⟩
        | ept q y o => have := h3.1; rw [hq.es] at this; cases this
        | _ => exact h3.elim
      | ept q y o => rw [hq0] at h3; have := h3.1; rw [hq.es] at this; cases this
      | _ => rw [hq0] at h3; exact h3.elim
    obtain ⟨av, ha, hx2⟩ := key
    rw [wOpD_alloc hy hgy] at ha
    refine ⟨rfl, ?_⟩
    have ha := ha.2
    rw [put_K] at ha
    cases hz : zeroOf P t2 with
    | none => simp only [hz] at ha
    | some cs =>
      cases hK : st.K with
      | nil => simp only [hz, hK] at ha
      | cons f K =>
        simp only [hz, hK] at ha
        refine ⟨ha.1, ⟨fun _ hc => (by rw [hal] at hc; cases hc), hal2 _⟩, ?_⟩
        have ha := ha.2.2
        rw [hdy] at ha ⊢
        refine hx2 f K cs hK _ (by rw [put_K]) ?_ k (hR _ _ ?_ ha)
        · rw [ev_put hpe]
          cases p <;> rfl
        · rw [← setK_put]
          exact put_comm hne
  · cases hl
def core : AC → AC
  | .opt _ v => v
  | .nam _ v => v
  | v => v
def optG : AC → Prop
  | .opt g _ => g = true
  | _ => True
theorem un_core {v : AC} {F : AC → Prop} : un none v F ↔ (optG v ∧ F (core v)) := by
  cases v <;> simp [core, optG]
theorem share_part {u : Nat} {part : List AC} (h : ∀ c ∈ part, mapC (liftP u) c ≠ .undef) : (shareL part).map (fun c => Abs.share (mapC (liftP u) c)) = part.map fun c => Abs.share (mapC (liftP u) c) := by
  rw [shareL_eq, List.map_map]
  apply List.map_congr_left
  intro c hc
  have hc := h c hc
  cases c with
  | sl o n cs => cases o <;> simp [Abs.share, mapC]
  | nam x v =>
    cases v with
    | sl o n cs => cases o <;> simp [Abs.share, mapC]
    | _ => simp [mapC] at hc
  | agg cs => simp [mapC] at hc
  | tup cs => simp [mapC] at hc
  | opt g v => simp [mapC] at hc
  | _ => simp [Abs.share]
theorem part_good {t : TypeId} {u : Nat} {part : List AC} (hn : part.length = P.cellsOf t) (h1 : noUndef (mkVal P t (part.map (mapC (liftP u)))) = true) (h2 : isAggV (mkVal P t (part.map (mapC (liftP u)))) = false → P.cellsOf t = 1) : ∀ c ∈ part, mapC (liftP u) c ≠ .undef := by
  unfold mkVal at h1 h2
  split at h1
  · intro c hc e
    simp only [noUndef] at h1
    have := List.all_eq_true.1 h1 _ (List.mem_map_of_mem hc)
    rw [e] at this
    simp at this
  · rename_i hnot
    split at h2
    · rename_i hs; exact absurd hs (hnot _)
    · have hone : part.length = 1 := by
        rw [hn]
        apply h2
        cases part with
        | nil => rfl
        | cons c r =>
          simp only [List.map_cons, List.headD_cons]
          cases c with
          | nam x v => cases v <;> rfl
          | _ => rfl
      match part, hone with
      | [c], _ =>
        intro c' hc' e
        simp only [List.mem_singleton] at hc'
        subst hc'
        simp only [List.map_cons, List.map_nil, List.headD_cons] at h1
        rw [e] at h1
        simp [noUndef] at h1
theorem getBox_set {K : List (List (List AC))} {u i u' i' : Nat} {cells new : List AC} (h : getBox K u i = some cells) : getBox (setBox K u i new) u' i' = if u' = u ∧ i' = i then some new else getBox K u' i' := by
  unfold getBox at h
  cases hf : K[u]? with
  | none => rw [hf] at h; simp at h
  | some f =>
    rw [hf, Option.bind_some] at h
    unfold setBox getBox
    simp only [hf]
    rw [List.getElem?_set]
    have hu := (List.getElem?_eq_some_iff.1 hf).1
    have hi := (List.getElem?_eq_some_iff.1 h).1
    by_cases e : u = u'
    · subst e
      rw [if_pos rfl, if_pos hu, Option.bind_some, List.getElem?_set]
      by_cases e2 : i = i'
      · subst e2; simp [hi]
      · rw [if_neg e2, if_neg (fun h => e2 h.2.symm), hf, Option.bind_some]
    · rw [if_neg e, if_neg (fun h => e h.1.symm)]
theorem mkVal_share {t : TypeId} {a b : List AC} (h : a.map Abs.share = b.map Abs.share) : Abs.share (mkVal P t a) = Abs.share (mkVal P t b) := by
  unfold mkVal
  split
  · simp only [Abs.share, shareL_eq, h]
  · have : ∀ l : List AC, Abs.share (l.headD .undef) = (l.map Abs.share).headD .undef := by intro l; cases l <;> simp [Abs.share]
    rw [this, this, h]
theorem swapT {k : St → Prop} (hl : apartT fi x y = true) (hR : Resp k) (h : wOpD P fi kd ops x (wOpD P fi kd ops y k) st) : wOpD P fi kd ops y (wOpD P fi kd ops x k) st := by
  unfold apartT at hl
  split at hl
  · rename_i t p t2 q d e hx hy hdx hdy
    simp only [Bool.and_eq_true, Bool.not_eq_true', bne_iff_ne, ne_eq, Option.isNone_iff_eq_none] at hl
    obtain ⟨⟨⟨⟨⟨⟨hgx, hgy⟩, htk⟩, htk2⟩, hne⟩, hqd⟩, hpe⟩ := hl
    have htk' : fi.takes x.dst = true := by rw [hdx]; exact htk
    have htk2' : fi.takes y.dst = false := by rw [hdy]; exact htk2
    have hfy : floatsD fi y = true := by unfold floatsD; rw [hy]; simp only [floats, htk2', Bool.not_false, Bool.true_or]
    have hldx : isCall x.op = false := by rw [hx]; rfl
    have evK : ∀ (S : St) (K1 : List (List (List AC))) (p : Operand), ({ S with K := K1 } : St).ev p = S.ev p := fun S K1 p => by cases p <;> rfl
    rw [wOpD_load hx hgx] at h
    obtain ⟨h1, h2, h3⟩ := h
    rw [un_core] at h3
    obtain ⟨hog, h3⟩ := h3
    cases hq0 : core (st.ev p) with
    | ptr u i off =>
      rw [hq0] at h3
      have h3 : match getBox st.K u i with | some cells => _ | none => False := h3
      cases hb : getBox st.K u i with
      | none => simp only [hb] at h3
      | some cells =>
        simp only [hb, Bool.true_and, hq.es, Bool.false_and, htk', if_true] at h3
        obtain ⟨hlen, ⟨hA, htl⟩, hy0⟩ := h3
        have htl2 := htl (by rw [hx]; simpa [isTL] using htk')
        have hpl : ((cells.drop off).take (P.cellsOf t)).length = P.cellsOf t := by simp; omega
        have hgood := part_good (P := P) (t := t) hpl htl2.1 (by have := htl2.2; rw [hx] at this; exact this)
        have hsp := share_part hgood
        have hmap : (putCells cells off (shareL ((cells.drop off).take (P.cellsOf t)))).map (fun c => Abs.share (mapC (liftP u) c)) = cells.map fun c => Abs.share (mapC (liftP u) c) := by
          unfold putCells
          rw [List.map_append, List.map_append, hsp]
          conv => rhs; rw [← List.take_append_drop off cells, ← List.take_append_drop (P.cellsOf t) (cells.drop off)]
          rw [List.map_append, List.map_append, shareL_eq, List.length_map, hpl, List.drop_drop, List.append_assoc]
        have hsl : (shareL ((cells.drop off).take (P.cellsOf t))).length = P.cellsOf t := by rw [shareL_eq, List.length_map, hpl]
        have hlen2 : (putCells cells off (shareL ((cells.drop off).take (P.cellsOf t)))).length = cells.length := by
          unfold putCells
          simp only [List.length_append, List.length_take, List.length_drop, hsl]
          omega
        rw [hdx] at hy0
        rw [wOpD_load hy hgy] at hy0 ⊢
        obtain ⟨g1, g2, g3⟩ := hy0
        refine ⟨g1, g2, ?_⟩
        rw [un_core] at g3 ⊢
        rw [ev_put hqd, evK] at g3
        refine ⟨g3.1, ?_⟩
        have g3 := g3.2
        have fin : ∀ v2, k (((({ st with K := setBox st.K u i (putCells cells off (shareL ((cells.drop off).take (P.cellsOf t)))) } : St).put fi (some d) (mkVal P t (((cells.drop off).take (P.cellsOf t)).map (mapC (liftP u))))).put fi (some e) v2)) → wOpD P fi kd ops x k (st.put fi (some e) v2) := by
          intro v2 hk2
          rw [wOpD_load hx hgx]
          refine ⟨h1, h2, ?_⟩
          rw [un_core, ev_put hpe]
          refine ⟨hog, ?_⟩
          rw [hq0]
          show match getBox (st.put fi (some e) v2).K u i with | some cells => _ | none => False
          rw [put_K]
          simp only [hb, Bool.true_and, hq.es, Bool.false_and, htk', if_true]
          refine ⟨hlen, ⟨fun _ hc => (by rw [hldx] at hc; cases hc), htl⟩, ?_⟩
          rw [hdx]
          refine hR _ _ ?_ hk2
          rw [← setK_put]
          exact put_comm hne
        cases hq2 : core (st.ev q) with
        | ptr u2 i2 off2 =>
          rw [hq2] at g3
          have g3 : match getBox _ u2 i2 with | some cells => _ | none => False := g3
          rw [put_K] at g3
          show match getBox st.K u2 i2 with | some cells => _ | none => False
          simp only [getBox_set hb] at g3
          by_cases he : u2 = u ∧ i2 = i
          · obtain ⟨rfl, rfl⟩ := he
            simp only [and_self, if_true, htk2', hq.es, Bool.false_and, Bool.and_false, Bool.false_eq_true, if_false] at g3
            simp only [hb, htk2', hq.es, Bool.false_and, Bool.and_false, Bool.false_eq_true, if_false]
            refine ⟨by rw [hlen2] at g3; exact g3.1, ⟨by simp, tlOk_of hfy⟩, ?_⟩
            rw [hdy] at g3 ⊢
            have hv := g3.2.2
            refine fin _ ?_
            have es : Abs.share (mkVal P t2 (List.map (mapC (liftP u2)) (List.take (P.cellsOf t2) (List.drop off2 (putCells cells off (shareL ((cells.drop off).take (P.cellsOf t))))))))
                = Abs.share (mkVal P t2 (List.map (mapC (liftP u2)) (List.take (P.cellsOf t2) (List.drop off2 cells)))) := by
              apply mkVal_share
              rw [List.map_map, List.map_map, List.map_take, List.map_take, List.map_drop, List.map_drop]
              have := hmap
              simp only [Function.comp_def]
              rw [this]
            rw [← es]; exact hv
          · simp only [if_neg he, htk2', hq.es, Bool.false_and, Bool.and_false, Bool.false_eq_true, if_false] at g3 ⊢
            cases hb2 : getBox st.K u2 i2 with
            | none => simp only [hb2] at g3
            | some c2 =>
              simp only [hb2] at g3 ⊢
              refine ⟨g3.1, ⟨by simp, tlOk_of hfy⟩, ?_⟩
              rw [hdy] at g3 ⊢
              exact fin _ g3.2.2
        | ref c2 =>
          rw [hq2] at g3
          refine ⟨g3.1, ⟨by simp, tlOk_of hfy⟩, ?_⟩
          rw [hdy] at g3 ⊢
          exact fin _ g3.2.2
        | ept a b c => rw [hq2] at g3; have := g3.1; rw [hq.es] at this; cases this
        | _ => rw [hq2] at g3; exact g3.elim
    | ref cells =>
      rw [hq0] at h3
      obtain ⟨hlen, ⟨hA, htl⟩, hy0⟩ := h3
      rw [hdx] at hy0
      obtain ⟨pre, av, hfix⟩ := wOpD_fix (P := P) (kd := kd) (ops := ops) hfy st
      have hlk : ∀ v : AC, ∀ j ∈ looks ops y, (st.put fi (some d) v).get j = st.get j := by
        intro v j hj
        refine put_get fun e1 => ?_
        cases e1
        unfold looks at hj
        rw [hgy] at hj
        simp only [List.append_nil] at hj
        have := mem_reads.1 hj
        rw [hy] at this
        simp only [Op.operands, List.mem_toArray, List.mem_singleton] at this
        subst this
        simp [tmpOf] at hqd
      have hy1 := (hfix _ (hlk _) (fun _ => put_K) k).1 hy0
      refine (hfix st (fun _ _ => rfl) (fun _ => rfl) _).2 ⟨hy1.1, ?_⟩
      rw [wOpD_load hx hgx]
      refine ⟨h1, h2, ?_⟩
      have hy2 := hy1.2
      rw [hdy] at hy2 ⊢
      rw [un_core, ev_put hpe]
      refine ⟨hog, ?_⟩
      rw [hq0]
      refine ⟨hlen, ⟨by simp, htl⟩, ?_⟩
      rw [hdx]
      exact hR _ _ (put_comm hne) hy2
    | ept a b c => rw [hq0] at h3; have := h3.1; rw [hq.es] at this; cases this
    | _ => rw [hq0] at h3; exact h3.elim
  · cases hl
theorem wOpD_mono {k k' : St → Prop} (hR : Resp k') (h : ∀ s, k s → k' s) (hw : wOpD P fi kd ops o k st) : wOpD P fi kd ops o k' st :=
  wOpD_rel (A := fun _ => True) Ag.refl (fun _ _ => trivial) (fun v s1 s1' hag _ _ _ _ hh => hR _ _ hag.put (h _ hh)) hw
theorem resp_op {k : St → Prop} (hR : Resp k) : Resp (wOpD P fi kd ops o k) := fun s s' h hw =>
  wOpD_rel (A := fun _ => True) h (fun _ _ => trivial) (fun v s1 s1' hag _ _ _ _ hh => hR _ _ hag.put hh) hw
theorem resp_ops {k : St → Prop} (hR : Resp k) : ∀ {l : List Oper}, Resp (wOpsD P fi kd ops l k) := by
  intro l
  induction l with
  | nil => exact hR
  | cons o l ih => exact resp_op ih
theorem front {k : St → Prop} (hR : Resp k) {r2 : List Oper} : ∀ {r1 : List Oper} {st : St}, (∀ x ∈ r1, swapOk fi kd ops x o = true) → wOpsD P fi kd ops (r1 ++ o :: r2) k st →
    wOpD P fi kd ops o (wOpsD P fi kd ops (r1 ++ r2) k) st := by
  intro r1
  induction r1 with
  | nil => intro st _ h; exact h
  | cons x r1 ih =>
    intro st hs h
    have h : wOpD P fi kd ops x (wOpsD P fi kd ops (r1 ++ o :: r2) k) st := h
    have h2 : wOpD P fi kd ops x (wOpD P fi kd ops o (wOpsD P fi kd ops (r1 ++ r2) k)) st :=
      wOpD_mono (resp_op (resp_ops hR)) (fun s hh => ih (fun y hy => hs y (List.mem_cons_of_mem _ hy)) hh) h
    have := hs x List.mem_cons_self
    simp only [swapOk, Bool.or_eq_true] at this
    rcases this with ((((h3 | h3) | h3) | h3) | h3) | h3
    · exact swapA h3 (resp_ops hR) h2
    · exact swapB h3 (resp_ops hR) h2
    · exact swapD1 h3 (resp_ops hR) h2
    · exact swapD2 h3 (resp_ops hR) h2
    · exact swapL h3 (resp_ops hR) h2
    · exact swapT h3 (resp_ops hR) h2

theorem wXs_wTs {l : List Operand} {k : List AC → Prop} {k' : List AC → St → Prop} (hl : l.all (noTk fi) = true) (hk : ∀ vs, k vs → k' vs st) (h : wXs gd st l k) : wTs fi m gd l st k' := by
  induction l generalizing k k' with
  | nil => exact hk _ h
  | cons x l ih =>
    simp only [List.all_cons, Bool.and_eq_true] at hl
    have h : un gd (st.ev x) fun v => wXs gd st l fun vs => k (share v :: vs) := h
    show wT fi m gd st x fun v st => wTs fi m gd l st fun vs st => k' (v :: vs) st
    cases x with
    | tmp t =>
      have e : fi.tk.elem t = false := by simpa [noTk] using hl.1
      show un gd (st.get t) fun v => if m && fi.tk.elem t then _ else _
      simp only [e, Bool.and_false, Bool.false_eq_true, if_false]
      exact un_mono (fun u hu => ih hl.2 (fun vs hv => hk _ hv) hu) h
    | const c =>
      have key : ∀ z : AC, (∃ c, z = ofV c) → un gd z (fun v => wXs gd st l fun vs => k (share v :: vs)) → wXs gd st l fun vs => k (z :: vs) := by
        rintro z ⟨c, rfl⟩ hz
        unfold ofV at hz ⊢
        split at hz
        · exact hz
        · exact hz
        · split at hz
          · rename_i hlt; rw [if_pos hlt]; exact hz
          · rename_i hlt; rw [if_neg hlt]; exact hz
        · exact hz
        · exact hz
      exact ih hl.2 (fun vs hv => hk _ hv) (key _ ⟨c, rfl⟩ h)
    | func f => exact ih hl.2 (fun vs hv => hk _ hv) h
    | global g => exact ih hl.2 (fun vs hv => hk _ hv) h
/-- In text order 'len' may tell more. -/
theorem wDoD_wDo {op : Go.Op} {k k' : AC → St → Prop} (hmg : m = true → gOk gd) (hk : ∀ v s1 s1', Ag (fun _ => True) s1 s1' → k v s1 → k' v s1') (h : wDoD P fi m gd dst op st k) : wDo P fi m gd dst op st k' := by
  unfold wDoD at h
  split at h
  · rename_i x t hl
    unfold isLen at hl
    split at hl
    · rename_i args ts
      split at hl
      · rename_i y t' r h1 h2
        cases hl
        show wBuiltin P fi m (fi.keeps dst) gd .len args.toList ts.toList st k'
        rw [h1, h2]
        show un gd (st.ev x) fun v => wLen gd (tdOf P t) v fun v => k' v st
        refine un_mono (fun u hu => ?_) h
        unfold wLenD at hu
        unfold wLen
        split at hu
        · rename_i e1
          first | exact fun _ => hk _ _ _ Ag.refl hu | (rw [e1]; exact fun _ => hk _ _ _ Ag.refl hu)
        · rename_i e1
          first | exact fun _ => hk _ _ _ Ag.refl hu | (rw [e1]; exact fun _ => hk _ _ _ Ag.refl hu)
        · exact hu.elim
      · cases hl
    · cases hl
  · split at h
    · rename_i f args r hQ
      obtain ⟨⟨a, ts, rfl, rfl⟩, hn, _⟩ := isQ_some hQ
      show un gd (st.ev f) _
      refine un_mono (fun u hu => ?_) h
      cases u with
      | fn g caps =>
        have hb : (m && fi.bw.elem g) = false := by rw [hq.bw]; simp
        simp only [hb, Bool.false_eq_true, if_false] at hu ⊢
        refine wXs_wTs hn (fun vs hv => ?_) hu
        unfold callK
        split
        · rename_i hm; exact ⟨r, st.K, hv.1 (hmg hm) _, hk _ _ _ Ag.refl hv.2⟩
        · exact ⟨r, fun hg => hv.1 hg _, hk _ _ _ Ag.refl hv.2⟩
      | _ => exact hu.elim
    · exact wDo_rel (A := fun _ => True) Ag.refl (fun _ _ => trivial) (fun v s1 s1' hag _ _ hh => hk _ _ _ hag hh) h
theorem wOpD_wOp {k : St → Prop} (hR : Resp k) (h : wOpD P fi kd ops o k st) : wOp P fi true ops o k st := by
  unfold wOpD at h
  unfold wOp
  split at h
  · rename_i hg
    try simp only [hg]
    exact wDoD_wDo (fun _ => trivial) (fun v s1 s1' hag hh => hR _ _ hag.put hh.2) h
  · rename_i g want hg
    try simp only [hg]
    split at h
    · rename_i b hv
      try simp only [hv]
      exact wDoD_wDo (fun h => by cases h) (fun v s1 s1' hag hh => hR _ _ hag.put hh.2) h
    · exact h.elim
end

section
variable {C : Cx} {st : St} {a : Act} {w : World} {Pr : Addr → Prop} {b : List Nat} {Q : Exit → Act → World → Prop} {ops : Array Oper} {kd : Bool}

/-- One operation, whatever follows. -/
theorem wOp_step {o : Oper} {k : St → Prop} {m : Bool} {next : Act → World → Prop} (hk : ∀ st' a' w' Pr' b', k st' → SR C st' a' w' Pr' b' [] [] → next a' w') (hd : opDst C.N o = true)
    (h : wOp C.P C.fi m ops.toList o k st) (hS : SR C st a w Pr b [] []) : if Region.wanted o (yielded ops a.tmps) then o.wp C.P a w next Q ∨ (o.asks C.P a w ∧ LetsOut Q) else next (a.put o.dst undef) w := by
  have hdst : ∀ j, o.dst = some j → j < C.N := by
    intro j hj
    simp only [opDst, hj, decide_eq_true_eq] at hd
    exact hd
  unfold wOp at h
  cases hg : o.guard with
  | none =>
    simp only [hg] at h
    rw [if_pos (by simp [Region.wanted, hg])]
    refine .inl (wDo_sound hS (by simp [gOk]) h ?_)
    intro av st' v w' Pr' b' hk' hS' _
    exact hk _ _ _ _ _ hk' (hS'.put o.dst hdst)
  | some gw =>
    obtain ⟨g, want⟩ := gw
    simp only [hg] at h
    cases hv : gVal st ops.toList g want with
    | none => simp [hv] at h
    | some c =>
      simp only [hv] at h
      have hw := gVal_wanted hS hv
      have hwant : Region.wanted o (yielded ops a.tmps) = c := by simp only [Region.wanted, hg]; exact hw
      cases c with
      | true =>
        rw [if_pos hwant]
        refine .inl (wDo_sound hS (by simp [gOk]) h ?_)
        intro av st' v w' Pr' b' hk' hS' _
        have hS2 := hS'.weaken (d := .opt true av) fun L hr => ⟨L, .optT hr, fun x => Nat.le_refl _⟩
        exact hk _ _ _ _ _ hk' (hS2.put o.dst hdst)
      | false =>
        rw [if_neg (by rw [hwant]; simp)]
        obtain ⟨av, hk'⟩ := wDo_any (by simp [gOk]) h
        exact hk _ _ _ _ _ hk' (SR.put (c := .opt false av) (hS.push .optF) o.dst hdst)
end
end Go.Proofs.YtkpdlbidadcdjaaDoor.Abs
