/- Regions that draw their order. No condition. -/
import Derived.Test.YtcgkcbmhjbbjmaaAbsX
import Derived.Orders
set_option linter.unusedVariables false
set_option linter.unusedSectionVars false
set_option linter.unusedSimpArgs false
namespace Go.Proofs.Ytcgkcbmhjbbjmaa.Abs
open Go

section
variable {A : Nat → Prop} {P : Program} {fi : FI} [hq : Quiet fi] {m kd : Bool} {gd : Option Bool} {dst : Option Nat} {s s' s0 st st' : St} {ops : List Oper} {o x y : Oper}

theorem Ag.put {v : AC} (h : Ag A s s') : Ag A (s.put fi dst v) (s'.put fi dst v) :=
  ⟨fun t ht => ⟨by rw [put_env, put_env, (h.1 t ht).1], by rw [put_loc, put_loc, (h.1 t ht).2]⟩, by rw [put_K, put_K]; exact h.2⟩
theorem wOpD_mono {k k' : St → Prop} (hR : Resp k') (h : ∀ s, k s → k' s) (hw : wOpD P fi kd ops o k st) : wOpD P fi kd ops o k' st :=
  wOpD_rel (A := fun _ => True) Ag.refl (fun _ _ => trivial) (fun v s1 s1' hag _ _ _ _ hh => hR _ _ hag.put (h _ hh)) hw
theorem resp_op {k : St → Prop} (hR : Resp k) : Resp (wOpD P fi kd ops o k) := fun s s' h hw =>
  wOpD_rel (A := fun _ => True) h (fun _ _ => trivial) (fun v s1 s1' hag _ _ _ _ hh => hR _ _ hag.put hh) hw
theorem resp_ops {k : St → Prop} (hR : Resp k) : ∀ {l : List Oper}, Resp (wOpsD P fi kd ops l k) := by
  intro l
  induction l with
  | nil => exact hR
  | cons o l ih => exact resp_op ih
theorem front {k : St → Prop} (hR : Resp k) {r2 : List Oper} : ∀ {r1 : List Oper} {st : St}, (∀ x ∈ r1, swapOk fi kd ops x o = true) → wOpsD P fi kd ops (r1 ++ o :: r2) k st →
    wOpD P fi kd ops o (wOpsD P fi kd ops (r1 ++ r2) k) st := by
  intro r1
  induction r1 with
  | nil => intro st _ h; exact h
  | cons x r1 ih =>
    intro st hs h
    have h : wOpD P fi kd ops x (wOpsD P fi kd ops (r1 ++ o :: r2) k) st := h
    have h2 : wOpD P fi kd ops x (wOpD P fi kd ops o (wOpsD P fi kd ops (r1 ++ r2) k)) st :=
      wOpD_mono (resp_op (resp_ops hR)) (fun s hh => ih (fun y hy => hs y (List.mem_cons_of_mem _ hy)) hh) h
    have := hs x List.mem_cons_self
    simp only [swapOk, Bool.or_eq_true] at this
    rcases this with h3 | h3
    · exact swapA h3 (resp_ops hR) h2
    · exact swapB h3 (resp_ops hR) h2

/-- In text order 'len' may tell more. -/
theorem wDoD_wDo {op : Go.Op} {k k' : AC → St → Prop} (hk : ∀ v s1 s1', Ag (fun _ => True) s1 s1' → k v s1 → k' v s1') (h : wDoD P fi m gd dst op st k) : wDo P fi m gd dst op st k' := by
  unfold wDoD at h
  split at h
  · rename_i x t hl
    unfold isLen at hl
    split at hl
    · rename_i args ts
      split at hl
      · rename_i y t' r h1 h2
        cases hl
        show wBuiltin P fi m (fi.keeps dst) gd .len args.toList ts.toList st k'
        rw [h1, h2]
        show un gd (st.ev x) fun v => wLen gd (tdOf P t) v fun v => k' v st
        refine un_mono (fun u hu => ?_) h
        unfold wLenD at hu
        unfold wLen
        split at hu
        · rename_i e1
          first | exact fun _ => hk _ _ _ Ag.refl hu | (rw [e1]; exact fun _ => hk _ _ _ Ag.refl hu)
        · rename_i e1
          first | exact fun _ => hk _ _ _ Ag.refl hu | (rw [e1]; exact fun _ => hk _ _ _ Ag.refl hu)
        · exact hu.elim
      · cases hl
    · cases hl
  · exact wDo_rel (A := fun _ => True) Ag.refl (fun _ _ => trivial) (fun v s1 s1' hag _ _ hh => hk _ _ _ hag hh) h
theorem wOpD_wOp {k : St → Prop} (hR : Resp k) (h : wOpD P fi kd ops o k st) : wOp P fi true ops o k st := by
  unfold wOpD at h
  unfold wOp
  split at h
  · rename_i hg
    try simp only [hg]
    exact wDoD_wDo (fun v s1 s1' hag hh => hR _ _ hag.put hh.2) h
  · rename_i g want hg
    try simp only [hg]
    split at h
    · rename_i b hv
      try simp only [hv]
      exact wDoD_wDo (fun v s1 s1' hag hh => hR _ _ hag.put hh.2) h
    · exact h.elim
end

section
variable {C : Cx} {st : St} {a : Act} {w : World} {Pr : Addr → Prop} {b : List Nat} {Q : Exit → Act → World → Prop} {ops : Array Oper} {kd : Bool}

/-- One operation, whatever follows. -/
theorem wOp_step {o : Oper} {k : St → Prop} {m : Bool} {next : Act → World → Prop} (hk : ∀ st' a' w' Pr' b', k st' → SR C st' a' w' Pr' b' [] [] → next a' w') (hd : opDst C.N o = true)
    (h : wOp C.P C.fi m ops.toList o k st) (hS : SR C st a w Pr b [] []) : if Region.wanted o (yielded ops a.tmps) then o.wp C.P a w next Q ∨ (o.asks C.P a w ∧ LetsOut Q) else next (a.put o.dst undef) w := by
  have hdst : ∀ j, o.dst = some j → j < C.N := by
    intro j hj
    simp only [opDst, hj, decide_eq_true_eq] at hd
    exact hd
  unfold wOp at h
  cases hg : o.guard with
  | none =>
    simp only [hg] at h
    rw [if_pos (by simp [Region.wanted, hg])]
    refine .inl (wDo_sound hS (by simp [gOk]) h ?_)
    intro av st' v w' Pr' b' hk' hS' _
    exact hk _ _ _ _ _ hk' (hS'.put o.dst hdst)
  | some gw =>
    obtain ⟨g, want⟩ := gw
    simp only [hg] at h
    cases hv : gVal st ops.toList g want with
    | none => simp [hv] at h
    | some c =>
      simp only [hv] at h
      have hw := gVal_wanted hS hv
      have hwant : Region.wanted o (yielded ops a.tmps) = c := by simp only [Region.wanted, hg]; exact hw
      cases c with
      | true =>
        rw [if_pos hwant]
        refine .inl (wDo_sound hS (by simp [gOk]) h ?_)
        intro av st' v w' Pr' b' hk' hS' _
        have hS2 := hS'.weaken (d := .opt true av) fun L hr => ⟨L, .optT hr, fun x => Nat.le_refl _⟩
        exact hk _ _ _ _ _ hk' (hS2.put o.dst hdst)
      | false =>
        rw [if_neg (by rw [hwant]; simp)]
        obtain ⟨av, hk'⟩ := wDo_any (by simp [gOk]) h
        exact hk _ _ _ _ _ hk' (SR.put (c := .opt false av) (hS.push .optF) o.dst hdst)
end
end Go.Proofs.Ytcgkcbmhjbbjmaa.Abs
