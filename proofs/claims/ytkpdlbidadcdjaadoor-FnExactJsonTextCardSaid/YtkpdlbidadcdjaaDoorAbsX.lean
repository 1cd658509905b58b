/- Two operations, of which one only reads, in either order: the exchange. No condition. -/
import Derived.Test.YtkpdlbidadcdjaaDoorAbsW
set_option linter.unusedVariables false
set_option linter.unusedSectionVars false
set_option linter.unusedSimpArgs false
namespace Go.Proofs.YtkpdlbidadcdjaaDoor.Abs
open Go

section
variable {A : Nat → Prop} {P : Program} {fi : FI} [hq : Quiet fi] {m kd : Bool} {gd : Option Bool} {dst : Option Nat} {s s' s0 st st' : St} {ops : List Oper} {o x y : Oper}

theorem mem_reads {t : Nat} : t ∈ reads o ↔ Operand.tmp t ∈ o.op.operands := by
  unfold reads
  rw [List.mem_flatMap]
  constructor
  · rintro ⟨y, hy, ht⟩
    cases y with
    | tmp j => simp only [tmpOf, List.mem_singleton] at ht; subst ht; simpa using hy
    | _ => simp [tmpOf] at ht
  · intro h; exact ⟨.tmp t, by simpa using h, by simp [tmpOf]⟩

theorem fixes_wXs {A : St → Prop} : ∀ {l : List Operand} {G : List AC → St → (AC → St → Prop) → Prop}, (∀ x ∈ l, ∃ v, ∀ st, A st → st.ev x = v) → (∀ us, Fixes A (G us)) →
    Fixes A (fun st k => wXs gd st l (fun us => G us st k)) := by
  intro l
  induction l with
  | nil => intro G _ h; exact h []
  | cons x l ih =>
    intro G hx h
    obtain ⟨v, hv⟩ := hx x List.mem_cons_self
    exact fixes_ev (G := fun u st k => wXs gd st l fun us => G (share u :: us) st k) hv fun u => ih (G := fun us => G (share u :: us)) (fun y hy => hx y (List.mem_cons_of_mem _ hy)) fun us => h _
theorem floatsD_fix {op : Go.Op} (hf : (floats fi dst op || (isLen op).isSome || qOk fi dst op) = true) : Fixes (Agree op s0) (fun st k => wDoD P fi m gd dst op st k) := by
  cases hl : isLen op with
  | none =>
    cases hQ : isQ fi dst op with
    | none =>
      have hf : floats fi dst op = true := by
        have hq : qOk fi dst op = false := by
          cases h : qOk fi dst op with
          | false => rfl
          | true =>
            exfalso
            unfold qOk at h
            split at h
            · rename_i f a ts
              simp only [isQ] at hQ
              unfold qOk at hQ
              simp only [h] at hQ
              cases hQ
            · cases h
        simpa [hl, hq] using hf
      exact (floats_fix (P := P) (m := m) (gd := gd) hf).congr fun st hs k => by simp only [wDoD, hl, hQ]
    | some fr =>
      obtain ⟨f, args, r⟩ := fr
      refine Fixes.congr (W' := fun st k => wQ P gd f args r st k) ?_ fun st hs k => by simp only [wDoD, hl, hQ]
      obtain ⟨⟨a, ts, rfl, rfl⟩, _, _⟩ := isQ_some hQ
      refine fixes_ev (G := fun u st k => match u with
        | .fn g caps => wXs gd st a.toList fun vs => quietK P gd g (vs ++ caps) r ∧ k r st
        | _ => False) (v := s0.ev f) (fun st hs => hs.1 f (by simp [Op.operands, Call.operands])) fun u => ?_
      cases u with
      | fn g caps =>
        exact fixes_wXs (G := fun vs st k => quietK P gd g (vs ++ caps) r ∧ k r st) (fun x hx => ⟨s0.ev x, fun st hs => hs.1 x (by simp [Op.operands, Call.operands]; exact .inr (by simpa using hx))⟩) fun us => fixes_and (fixes_ret r)
      | _ => exact fixes_false
  | some xt =>
    obtain ⟨x, t⟩ := xt
    refine Fixes.congr (W' := fun st k => un gd (st.ev x) fun v => wLenD (tdOf P t) v fun v => k v st) ?_ fun st hs k => by simp only [wDoD, hl]
    have hx : x ∈ op.operands := by
      unfold isLen at hl
      split at hl
      · rename_i args ts
        split at hl
        · rename_i y t' r h1 h2
          cases hl
          have : x ∈ args.toList := by rw [h1]; simp
          simp only [Op.operands, Call.operands]
          exact Array.mem_append.2 (.inr (by simpa using this))
        · cases hl
      · cases hl
    refine fixes_ev (G := fun v st k => wLenD (tdOf P t) v fun v => k v st) (v := s0.ev x) (fun st hs => hs.1 x hx) fun u => fixes_cps ?_
    unfold wLenD
    split
    · exact ⟨True, _, fun k => by simp; exact Iff.rfl⟩
    · exact ⟨True, _, fun k => by simp; exact Iff.rfl⟩
    · exact ⟨False, .undef, fun k => by simp⟩

theorem gVal_same {g : Nat} {want : Bool} (h : ∀ d, (ops[g]?).bind (·.dst) = some d → st'.get d = st.get d) : gVal st' ops g want = gVal st ops g want := by
  unfold gVal
  cases hd : (ops[g]?).bind (·.dst) with
  | none => rfl
  | some d => simp only [h d hd]

theorem tlOk_of (hf : floatsD fi o = true) {v : AC} : tlOk P fi o.dst o.op v := by
  intro h
  exfalso
  unfold isTL at h
  split at h
  · rename_i t x e
    unfold floatsD at hf
    rw [e] at hf
    simp only [floats, isLen, qOk, h, Bool.not_true, Option.isSome, Bool.or_self] at hf
    cases hf
  · cases h
/-- An operation that only reads, with its guard. -/
theorem wOpD_fix (hf : floatsD fi o = true) (st : St) : ∃ (Pre : Prop) (av : AC), ∀ st', (∀ t ∈ looks ops o, st'.get t = st.get t) → (loads o.op = true → st'.K = st.K) →
    ∀ k, wOpD P fi kd ops o k st' ↔ (Pre ∧ k (st'.put fi o.dst av)) := by
  have hag : ∀ st', (∀ t ∈ looks ops o, st'.get t = st.get t) → (loads o.op = true → st'.K = st.K) → Agree o.op st st' := fun st' h1 h2 => ⟨fun x hx => by
    cases x with
    | tmp t => exact h1 t (List.mem_append_left _ (mem_reads.2 hx))
    | _ => rfl, h2⟩
  cases hg : o.guard with
  | none =>
    obtain ⟨p, av, h⟩ := floatsD_fix (P := P) (m := true) (gd := none) (s0 := st) hf
    refine ⟨p, av, fun st' h1 h2 k => ?_⟩
    simp only [wOpD, hg]
    refine (h st' (hag st' h1 h2) _).trans ?_
    simp [tlOk_of hf]
  | some gw =>
    obtain ⟨g, want⟩ := gw
    have hgv : ∀ st', (∀ t ∈ looks ops o, st'.get t = st.get t) → gVal st' ops g want = gVal st ops g want := fun st' h1 => gVal_same fun d hd => h1 d (by
      unfold looks; rw [hg]; simp only [hd]; simp)
    cases hv : gVal st ops g want with
    | none =>
      refine ⟨False, .undef, fun st' h1 h2 k => ?_⟩
      simp only [wOpD, hg, hgv st' h1, hv, false_and]
    | some b =>
      obtain ⟨p, av, h⟩ := floatsD_fix (P := P) (m := false) (gd := some b) (s0 := st) hf
      refine ⟨p, .opt b av, fun st' h1 h2 k => ?_⟩
      simp only [wOpD, hg, hgv st' h1, hv]
      refine (h st' (hag st' h1 h2) _).trans ?_
      simp [tlOk_of hf]

theorem wOpD_rel {k k' : St → Prop} (h : Ag A st st') (hO : ∀ t ∈ looks ops o, A t)
    (hk : ∀ v s1 s1', Ag A s1 s1' → Fr o.op.operands.toList st s1 → Fr o.op.operands.toList st' s1' → (calm fi kd o = true → s1.K = st.K) → (floatsD fi o = true → s1 = st ∧ s1' = st') → k (s1.put fi o.dst v) → k' (s1'.put fi o.dst v))
    (hw : wOpD P fi kd ops o k st) : wOpD P fi kd ops o k' st' := by
  by_cases hf : floatsD fi o = true
  · obtain ⟨p, av, hfix⟩ := wOpD_fix (P := P) (kd := kd) (ops := ops) hf st
    have h1 := (hfix st (fun _ _ => rfl) (fun _ => rfl) k).1 hw
    exact (hfix st' (fun t ht => (h.get (hO t ht)).symm) (fun _ => h.2.symm) k').2 ⟨h1.1, hk _ _ _ h Fr.refl Fr.refl (fun _ => rfl) (fun _ => ⟨rfl, rfl⟩) h1.2⟩
  · have hl : isLen o.op = none := by
      cases hl : isLen o.op with
      | none => rfl
      | some _ => exact absurd (by simp [floatsD, hl]) hf
    have hQ : isQ fi o.dst o.op = none := isQ_not (by
      cases h5 : qOk fi o.dst o.op with
      | false => rfl
      | true => exact absurd (by simp [floatsD, h5]) hf)
    have hr : ∀ t, Operand.tmp t ∈ o.op.operands → A t := fun t ht => hO t (List.mem_append_left _ (mem_reads.2 ht))
    have hc : calm fi kd o = true → kd = true ∧ isCall o.op = true := by
      intro hc
      simp only [calm, Bool.or_eq_true, Bool.and_eq_true] at hc
      exact hc.resolve_left hf
    cases hg : o.guard with
    | none =>
      simp only [wOpD, hg, wDoD, hl, hQ] at hw ⊢
      refine wDo_rel h hr (fun v s1 s1' h1 f1 f1' hh => ⟨⟨fun a b => ?_, hh.1.2⟩, hk _ _ _ h1 f1 f1' (fun c => hh.1.1 (hc c).1 (hc c).2) (fun c => absurd c hf) hh.2⟩) hw
      rw [← h1.2, hh.1.1 a b]; exact h.2
    | some gw =>
      obtain ⟨g, want⟩ := gw
      have hgv : gVal st' ops g want = gVal st ops g want := gVal_same fun d hd => (h.get (hO d (by unfold looks; rw [hg]; simp only [hd]; simp))).symm
      simp only [wOpD, hg, hgv] at hw ⊢
      cases hv : gVal st ops g want with
      | none => simp only [hv] at hw
      | some b =>
        simp only [hv, wDoD, hl, hQ] at hw ⊢
        refine wDo_rel h hr (fun v s1 s1' h1 f1 f1' hh => ⟨⟨fun a b => ?_, hh.1.2⟩, hk _ _ _ h1 f1 f1' (fun c => hh.1.1 (hc c).1 (hc c).2) (fun c => absurd c hf) hh.2⟩) hw
        rw [← h1.2, hh.1.1 a b]; exact h.2

theorem wDoD_mono {op : Go.Op} {k k' : AC → St → Prop} (hk : ∀ v s, k v s → k' v s) (h : wDoD P fi m gd dst op st k) (hR : ∀ v s s', Ag (fun _ => True) s s' → k' v s → k' v s') : wDoD P fi m gd dst op st k' := by
  by_cases hf : (floats fi dst op || (isLen op).isSome || qOk fi dst op) = true
  · obtain ⟨p, av, hfix⟩ := floatsD_fix (P := P) (m := m) (gd := gd) (s0 := st) hf
    have := (hfix st ⟨fun x _ => rfl, fun _ => rfl⟩ _).1 h
    exact (hfix st ⟨fun x _ => rfl, fun _ => rfl⟩ _).2 ⟨this.1, hk _ _ this.2⟩
  · have hl : isLen op = none := by
      cases hl : isLen op with
      | none => rfl
      | some _ => exact absurd (by simp [hl]) hf
    have hQ : isQ fi dst op = none := isQ_not (by
      cases h5 : qOk fi dst op with
      | false => rfl
      | true => exact absurd (by simp [h5]) hf)
    simp only [wDoD, hl, hQ] at h ⊢
    exact wDo_rel (A := fun _ => True) ⟨fun _ _ => ⟨rfl, rfl⟩, rfl⟩ (fun _ _ => trivial) (fun _ _ _ hag _ _ hh => hR _ _ _ hag (hk _ _ hh)) h
theorem wOpD_const {c : Prop} (h : wOpD P fi kd ops o (fun _ => c) st) : c := by
  unfold wOpD at h
  split at h
  · exact wDoD_const (c := c) (wDoD_mono (fun v s hh => hh.2) h fun _ _ _ _ hh => hh)
  · split at h
    · exact wDoD_const (c := c) (wDoD_mono (fun v s hh => hh.2) h fun _ _ _ _ hh => hh)
    · exact h.elim

/-- Of no matter in which order the slots stand. -/
def Resp (k : St → Prop) : Prop := ∀ s s', Ag (fun _ => True) s s' → k s → k s'

theorem apart1_spec (h : apart1 fi kd ops x y = true) : floatsD fi x = true ∧ (loads x.op = true → calm fi kd y = true) ∧ (∀ t ∈ looks ops x, floatsD fi y = true ∨ t ∉ reads y) ∧
    (∀ d, x.dst = some d → d ∉ looks ops y ∧ y.dst ≠ some d) ∧ (∀ d, y.dst = some d → d ∉ looks ops x) := by
  simp only [apart1, Bool.and_eq_true] at h
  obtain ⟨⟨⟨⟨h1, h2⟩, h3⟩, h4⟩, h5⟩ := h
  refine ⟨h1, fun hl => by simpa [hl] using h2, fun t ht => ?_, fun d hd => ?_, fun d hd => ?_⟩
  · have := List.all_eq_true.1 h3 t ht
    simpa using this
  · simp only [hd, Bool.and_eq_true, Bool.not_eq_true', bne_iff_ne, ne_eq] at h4
    refine ⟨fun hm => ?_, h4.2⟩
    have := h4.1
    simp [hm] at this
  · simp only [hd] at h5
    intro hm
    simp [hm] at h5

theorem put_env {dst : Option Nat} {v : AC} {t : Nat} : look t (s.put fi dst v).env = if dst = some t ∧ fi.isVar t = true then some v else look t s.env := by
  cases dst with
  | none => rw [if_neg (fun h => by cases h.1)]; rfl
  | some d =>
    show look t (if fi.isVar d then { s with env := setE d v s.env } else { s with loc := setE d v s.loc }).env = _
    by_cases hv : fi.isVar d = true
    · rw [if_pos hv]
      show look t (setE d v s.env) = _
      rw [look_setE']
      by_cases e : t = d
      · subst e; rw [if_pos rfl, if_pos ⟨rfl, hv⟩]
      · rw [if_neg e, if_neg (fun h => e (Option.some.inj h.1).symm)]
    · rw [if_neg hv, if_neg]
      rintro ⟨h1, h2⟩
      cases h1; exact hv h2
theorem put_loc {dst : Option Nat} {v : AC} {t : Nat} : look t (s.put fi dst v).loc = if dst = some t ∧ fi.isVar t = false then some v else look t s.loc := by
  cases dst with
  | none => rw [if_neg (fun h => by cases h.1)]; rfl
  | some d =>
    show look t (if fi.isVar d then { s with env := setE d v s.env } else { s with loc := setE d v s.loc }).loc = _
    by_cases hv : fi.isVar d = true
    · rw [if_pos hv, if_neg]
      rintro ⟨h1, h2⟩
      cases h1; rw [hv] at h2; cases h2
    · rw [if_neg hv]
      show look t (setE d v s.loc) = _
      rw [look_setE']
      by_cases e : t = d
      · subst e; rw [if_pos rfl, if_pos ⟨rfl, by simpa only [Bool.not_eq_true] using hv⟩]
      · rw [if_neg e, if_neg (fun h => e (Option.some.inj h.1).symm)]
theorem put_K {dst : Option Nat} {v : AC} : (s.put fi dst v).K = s.K := by
  unfold St.put; split
  · rfl
  · split <;> rfl
theorem get_of_looks {t : Nat} (h : look t s.env = look t s'.env ∧ look t s.loc = look t s'.loc) : s.get t = s'.get t := by
  unfold St.get; rw [h.1, h.2]
theorem put_get {dst : Option Nat} {v : AC} {t : Nat} (h : dst ≠ some t) : (s.put fi dst v).get t = s.get t :=
  get_of_looks ⟨by rw [put_env, if_neg (fun e => h e.1)], by rw [put_loc, if_neg (fun e => h e.1)]⟩

theorem Ag.put_left {dst : Option Nat} {v : AC} : Ag (fun t => dst ≠ some t) (s.put fi dst v) s :=
  ⟨fun t ht => ⟨by rw [put_env, if_neg (fun e => ht e.1)], by rw [put_loc, if_neg (fun e => ht e.1)]⟩, put_K⟩
theorem Ag.symm (h : Ag A s s') : Ag A s' s := ⟨fun t ht => ⟨(h.1 t ht).1.symm, (h.1 t ht).2.symm⟩, h.2.symm⟩
theorem Ag.refl : Ag A s s := ⟨fun _ _ => ⟨rfl, rfl⟩, rfl⟩

/-- Where the slots of y's operation are as they were. -/
theorem frame_of {s1 : St} {t : Nat} (hr : floatsD fi y = true ∨ t ∉ reads y) (f : Fr y.op.operands.toList st s1) (hfl : floatsD fi y = true → s1 = st) :
    look t s1.env = look t st.env ∧ look t s1.loc = look t st.loc := by
  rcases hr with hr | hr
  · rw [hfl hr]; exact ⟨rfl, rfl⟩
  · exact f t fun e => hr (mem_reads.2 (by simpa using e))

/-- What stands behind both, in either order. -/
theorem both_ag {dx dy : Option Nat} {vx v : AC} {s1 s1' : St} (hne : ∀ d, dx = some d → dy ≠ some d) (hag : Ag (fun t => dx ≠ some t) s1 s1')
    (f : ∀ d, dx = some d → look d s1.env = look d (st.put fi dx vx).env ∧ look d s1.loc = look d (st.put fi dx vx).loc) (f' : ∀ d, dx = some d → look d s1'.env = look d st.env ∧ look d s1'.loc = look d st.loc) :
    Ag (fun _ => True) (s1.put fi dy v) ((s1'.put fi dy v).put fi dx vx) := by
  refine ⟨fun t _ => ?_, by rw [put_K, put_K, put_K]; exact hag.2⟩
  by_cases e : dx = some t
  · have hn := hne t e
    obtain ⟨a, b⟩ := f t e
    obtain ⟨c, d⟩ := f' t e
    have l1 : look t (s1.put fi dy v).env = look t s1.env := by rw [put_env, if_neg (fun h => hn h.1)]
    have l2 : look t (s1.put fi dy v).loc = look t s1.loc := by rw [put_loc, if_neg (fun h => hn h.1)]
    have l3 : look t (s1'.put fi dy v).env = look t s1'.env := by rw [put_env, if_neg (fun h => hn h.1)]
    have l4 : look t (s1'.put fi dy v).loc = look t s1'.loc := by rw [put_loc, if_neg (fun h => hn h.1)]
    constructor
    · rw [l1, a, put_env, put_env (s := s1'.put fi dy v), l3, c]
    · rw [l2, b, put_loc, put_loc (s := s1'.put fi dy v), l4, d]
  · obtain ⟨a, b⟩ := hag.1 t e
    constructor
    · rw [put_env, put_env (s := s1'.put fi dy v), if_neg (c := dx = some t ∧ _) (fun h => e h.1), put_env, a]
    · rw [put_loc, put_loc (s := s1'.put fi dy v), if_neg (c := dx = some t ∧ _) (fun h => e h.1), put_loc, b]

theorem swapA {k : St → Prop} (hsw : apart1 fi kd ops x y = true) (hR : Resp k) (h : wOpD P fi kd ops x (wOpD P fi kd ops y k) st) : wOpD P fi kd ops y (wOpD P fi kd ops x k) st := by
  obtain ⟨hf, hK, hl, hdx, hdy⟩ := apart1_spec hsw
  obtain ⟨p, vx, hx⟩ := wOpD_fix (P := P) (kd := kd) (ops := ops) hf st
  have h1 := (hx st (fun _ _ => rfl) (fun _ => rfl) _).1 h
  refine wOpD_rel (A := fun t => x.dst ≠ some t) (k := k) (st := st.put fi x.dst vx) Ag.put_left (fun t ht e => (hdx t e).1 ht) (fun v s1 s1' hag f f' hc hfl hh => ?_) h1.2
  refine (hx (s1'.put fi y.dst v) (fun t ht => ?_) (fun hlo => ?_) k).2 ⟨h1.1, hR (s1.put fi y.dst v) _ ?_ hh⟩
  · rw [put_get (fun e => hdy t e ht)]
    exact get_of_looks (frame_of (hl t ht) f' fun c => (hfl c).2)
  · rw [put_K, ← hag.2, hc (hK hlo), put_K]
  · exact both_ag (fun d hd => (hdx d hd).2) hag (fun d hd => frame_of (.inr fun hm => (hdx d hd).1 (List.mem_append_left _ hm)) f fun c => (hfl c).1)
      (fun d hd => frame_of (.inr fun hm => (hdx d hd).1 (List.mem_append_left _ hm)) f' fun c => (hfl c).2)

theorem swapB {k : St → Prop} (hsw : apart1 fi kd ops y x = true) (hR : Resp k) (h : wOpD P fi kd ops x (wOpD P fi kd ops y k) st) : wOpD P fi kd ops y (wOpD P fi kd ops x k) st := by
  obtain ⟨hf, hK, hl, hdy, hdx⟩ := apart1_spec hsw
  obtain ⟨p, vy, hy⟩ := wOpD_fix (P := P) (kd := kd) (ops := ops) hf st
  have agree : ∀ (v : AC) (s1 : St), Fr x.op.operands.toList st s1 → (floatsD fi x = true → s1 = st) → ∀ t ∈ looks ops y, (s1.put fi x.dst v).get t = st.get t := by
    intro v s1 f hfl t ht
    rw [put_get (fun e => hdx t e ht)]
    exact get_of_looks (frame_of (hl t ht) f hfl)
  have hp : p := wOpD_const (c := p) (wOpD_rel (A := fun _ => True) (st' := st) (k' := fun _ => p) Ag.refl (fun _ _ => trivial) (fun v s1 s1' hag f f' hc hfl hh =>
    ((hy (s1.put fi x.dst v) (agree v s1 f fun c => (hfl c).1) (fun hlo => by rw [put_K, hc (hK hlo)]) k).1 hh).1) h)
  refine (hy st (fun _ _ => rfl) (fun _ => rfl) _).2 ⟨hp, ?_⟩
  refine wOpD_rel (A := fun t => y.dst ≠ some t) (st := st) (k := fun s => wOpD P fi kd ops y k s) Ag.put_left.symm (fun t ht e => (hdy t e).1 ht) (fun v s1 s1' hag f f' hc hfl hh => ?_) h
  have h2 := ((hy (s1.put fi x.dst v) (agree v s1 f fun c => (hfl c).1) (fun hlo => by rw [put_K, hc (hK hlo)]) k).1 hh).2
  refine hR _ _ (Ag.symm ?_) h2
  exact both_ag (fun d hd => (hdy d hd).2) hag.symm (fun d hd => frame_of (.inr fun hm => (hdy d hd).1 (List.mem_append_left _ hm)) f' fun c => (hfl c).2)
      (fun d hd => frame_of (.inr fun hm => (hdy d hd).1 (List.mem_append_left _ hm)) f fun c => (hfl c).1)
end
end Go.Proofs.YtkpdlbidadcdjaaDoor.Abs
