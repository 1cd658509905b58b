/- Regions that draw their order: any order. No condition. -/
import Derived.Test.YtkpdlbidadcdjaaDoorAbsY
set_option linter.unusedVariables false
set_option linter.unusedSectionVars false
set_option linter.unusedSimpArgs false
namespace Go.Proofs.YtkpdlbidadcdjaaDoor.Abs
open Go
section
variable {C : Cx} [hq : Quiet C.fi] {Q : Exit → Act → World → Prop} {ops : Array Oper} {kd : Bool}

theorem getD_lt {l : Array Bool} {j : Nat} (h : j < l.size) (d d' : Bool) : l.getD j d = l.getD j d' := by simp [Array.getD, h]

/-- i comes after j, by edges. -/
inductive Rch (ops : List Oper) (j : Nat) : Nat → Prop
  | base {i : Nat} {o : Oper} {e : Edge} : ops[i]? = some o → e ∈ o.after.toList → Region.binds .any e = true → e.on = j → Rch ops j i
  | step {i : Nat} {o : Oper} {e : Edge} : ops[i]? = some o → e ∈ o.after.toList → Region.binds .any e = true → Rch ops j e.on → Rch ops j i

theorem maskOf_bit {acc : List Nat} {j : Nat} : ∀ {es : List Edge}, (maskOf acc es).testBit j = true → ∃ e ∈ es, Region.binds .any e = true ∧ (e.on = j ∨ (acc.getD e.on 0).testBit j = true) := by
  intro es
  induction es with
  | nil => intro h; simp [maskOf] at h
  | cons e es ih =>
    intro h
    rw [show maskOf acc (e :: es) = if Region.binds .any e then (maskOf acc es ||| (2 ^ e.on)) ||| acc.getD e.on 0 else maskOf acc es from rfl] at h
    by_cases hb : Region.binds .any e = true
    · rw [if_pos hb] at h
      simp only [Nat.testBit_or, Bool.or_eq_true, Nat.testBit_two_pow, decide_eq_true_eq] at h
      rcases h with (h | h) | h
      · obtain ⟨e', h1, h2⟩ := ih h
        exact ⟨e', List.mem_cons_of_mem _ h1, h2⟩
      · exact ⟨e, List.mem_cons_self, hb, .inl h⟩
      · exact ⟨e, List.mem_cons_self, hb, .inr h⟩
    · rw [if_neg hb] at h
      obtain ⟨e', h1, h2⟩ := ih h
      exact ⟨e', List.mem_cons_of_mem _ h1, h2⟩

theorem masks_rch {ops : List Oper} {j : Nat} : ∀ (os : List Oper) (acc : List Nat), ops = ops.take acc.length ++ os → (∀ i, (acc.getD i 0).testBit j = true → Rch ops j i) → ∀ i, ((masks os acc).getD i 0).testBit j = true → Rch ops j i := by
  intro os
  induction os with
  | nil => intro acc _ h i hi; exact h i hi
  | cons o os ih =>
    intro acc he h i hi
    have hlen : acc.length ≤ ops.length := by
      rcases Nat.lt_or_ge ops.length acc.length with hl | hl
      · rw [List.take_of_length_le (by omega)] at he
        have := congrArg List.length he
        simp at this
      · exact hl
    have ho : ops[acc.length]? = some o := by
      rw [he, List.getElem?_append_right (by simp; omega)]
      simp [Nat.min_eq_left hlen]
    refine ih (acc ++ [maskOf acc o.after.toList]) ?_ (fun i hi => ?_) i hi
    · conv => lhs; rw [he]
      rw [List.length_append, List.length_singleton, List.take_add_one, ho]
      simp
    · rcases Nat.lt_trichotomy i acc.length with hl | hl | hl
      · refine h i ?_
        rwa [List.getD_eq_getElem?_getD, List.getElem?_append_left hl, ← List.getD_eq_getElem?_getD] at hi
      · subst hl
        rw [List.getD_eq_getElem?_getD, List.getElem?_append_right (Nat.le_refl _)] at hi
        simp at hi
        obtain ⟨e, h1, h2, h3⟩ := maskOf_bit (es := o.after.toList) hi
        rcases h3 with h3 | h3
        · exact .base ho h1 h2 h3
        · exact .step ho h1 h2 (h _ h3)
      · rw [List.getD_eq_getElem?_getD, List.getElem?_eq_none (by simp; omega)] at hi
        simp at hi

theorem drawOk_at {fi : FI} (h : drawOk fi kd ops.toList = true) {i : Nat} {o : Oper} (ho : ops[i]? = some o) :
    (∀ e ∈ o.after, Region.binds .any e = true → e.on < i) ∧ ∀ j x, j < i → ops[j]? = some x → Rch ops.toList j i ∨ swapOk fi kd ops.toList x o = true := by
  have hlt : i < ops.size := (Array.getElem?_eq_some_iff.1 ho).1
  have h1 := List.all_eq_true.1 h i (by simpa using hlt)
  rw [show ops.toList[i]? = some o by simpa using ho] at h1
  simp only [Bool.and_eq_true] at h1
  refine ⟨fun e he hb => ?_, fun j x hj hx => ?_⟩
  · have := List.all_eq_true.1 h1.1 e (by simpa using he)
    simpa [hb] using this
  · have := List.all_eq_true.1 h1.2 j (by simpa using hj)
    rw [show ops.toList[j]? = some x by simpa using hx] at this
    simp only [Bool.or_eq_true] at this
    rcases this with h2 | h2
    · exact .inl (masks_rch ops.toList [] (by simp) (fun i hi => by simp at hi) i h2)
    · exact .inr h2

/-- What is listed has all that it comes after listed. -/
def Clo (ops : Array Oper) (listed : Array Bool) : Prop := ∀ (i : Nat) (o : Oper), ops[i]? = some o → listed.getD i true = true → ∀ e ∈ o.after, Region.binds .any e = true → listed.getD e.on true = true
theorem rch_listed {listed : Array Bool} (hc : Clo ops listed) {j i : Nat} (h : Rch ops.toList j i) : (∀ o, ops[i]? = some o → ∀ e ∈ o.after, Region.binds .any e = true → listed.getD e.on true = true) → listed.getD j true = true := by
  induction h with
  | base h1 h2 h3 h4 => intro hp; rw [← h4]; exact hp _ (by simpa using h1) _ (by simpa using h2) h3
  | step h1 h2 h3 h4 ih => intro hp; exact ih fun o ho => hc _ o ho (hp _ (by simpa using h1) _ (by simpa using h2) h3)

theorem draw_any (hck : drawOk C.fi kd ops.toList = true) (hd : ops.toList.all (opDst C.N) = true) {k : St → Prop} (hR : Resp k)
    (hk : ∀ st' a' w' Pr' b', k st' → SR C st' a' w' Pr' b' [] [] → Q .normal a' w') :
    ∀ (fuel : Nat) (idx : List Nat) (listed : Array Bool) (st : St) (a : Act) (w : World) (Pr : Addr → Prop) (b : List Nat), listed.size = ops.size →
      Clo ops listed → (∀ i, i ∈ idx ↔ i < ops.size ∧ listed.getD i true = false) → idx.Pairwise (· < ·) → idx.length ≤ fuel →
      wOpsD C.P C.fi kd ops.toList (idx.filterMap (ops[·]?)) k st → SR C st a w Pr b [] [] → wpAny C.P .any ops Q fuel listed a w := by
  have nil : ∀ (idx : List Nat) (listed : Array Bool), listed.size = ops.size → (∀ i, i ∈ idx ↔ i < ops.size ∧ listed.getD i true = false) → idx.Pairwise (· < ·) → Region.ready .any ops listed = [] → idx = [] := by
    intro idx listed hsz hm hp hr
    cases idx with
    | nil => rfl
    | cons i r =>
      exfalso
      obtain ⟨hi, hl⟩ := (hm i).1 List.mem_cons_self
      have ho : ops[i]? = some ops[i] := Array.getElem?_eq_getElem hi
      have : i ∈ Region.ready .any ops listed := by
        rw [mem_ready]
        refine ⟨hl, _, ho, fun e he hb => ?_⟩
        have hlt := (drawOk_at hck ho).1 e he hb
        have hn : e.on ∉ i :: r := by
          intro hmem
          rcases List.mem_cons.1 hmem with h1 | h1
          · omega
          · have := (List.pairwise_cons.1 hp).1 _ h1; omega
        have h2 : ¬ (e.on < ops.size ∧ listed.getD e.on true = false) := fun h => hn ((hm _).2 h)
        have h3 : e.on < ops.size := by omega
        rw [getD_lt (by omega) false true]
        cases h4 : listed.getD e.on true with
        | true => rfl
        | false => exact absurd ⟨h3, h4⟩ h2
      rw [hr] at this
      cases this
  intro fuel
  induction fuel with
  | zero =>
    intro idx listed st a w Pr b hsz hcl hm hp hl h hS
    obtain rfl : idx = [] := List.eq_nil_of_length_eq_zero (by omega)
    refine ⟨?_, hk _ _ _ _ _ h hS⟩
    cases hr : Region.ready .any ops listed with
    | nil => rfl
    | cons i r =>
      have hi : i ∈ Region.ready .any ops listed := by rw [hr]; exact List.mem_cons_self
      obtain ⟨h0, o, ho, _⟩ := mem_ready.1 hi
      have := (hm i).2 ⟨(Array.getElem?_eq_some_iff.1 ho).1, h0⟩
      cases this
  | succ fuel ih =>
    intro idx listed st a w Pr b hsz hcl hm hp hl h hS
    refine ⟨fun hr => ?_, fun i hi => ?_⟩
    · obtain rfl := nil idx listed hsz hm hp hr
      exact hk _ _ _ _ _ h hS
    · obtain ⟨h0, o, ho, hpre⟩ := mem_ready.1 hi
      have hlt : i < ops.size := (Array.getElem?_eq_some_iff.1 ho).1
      have hmem := (hm i).2 ⟨hlt, h0⟩
      have hpre' : ∀ o', ops[i]? = some o' → ∀ e ∈ o'.after, Region.binds .any e = true → listed.getD e.on true = true := by
        intro o' ho' e he hb
        rw [ho] at ho'; cases ho'
        have h2 := hpre e he hb
        have h3 := (drawOk_at hck ho).1 e he hb
        rwa [getD_lt (by omega) true false]
      obtain ⟨F1, F2, rfl⟩ := List.append_of_mem hmem
      have hp2 := List.pairwise_append.1 hp
      have e1 : (F1 ++ i :: F2).filterMap (ops[·]?) = F1.filterMap (ops[·]?) ++ o :: F2.filterMap (ops[·]?) := by
        rw [List.filterMap_append, List.filterMap_cons]; simp only [ho]
      rw [e1] at h
      have hsw : ∀ x ∈ F1.filterMap (ops[·]?), swapOk C.fi kd ops.toList x o = true := by
        intro x hx
        obtain ⟨j, hj, hjx⟩ := List.mem_filterMap.1 hx
        have hji : j < i := hp2.2.2 j hj i List.mem_cons_self
        rcases (drawOk_at hck ho).2 j x hji hjx with h1 | h1
        · have h2 := rch_listed hcl h1 hpre'
          have h3 := ((hm j).1 (List.mem_append_left _ hj)).2
          rw [h3] at h2
          cases h2
        · exact h1
      have h2 := wOpD_wOp (resp_ops hR) (front hR hsw h)
      unfold wpOp
      simp only [ho]
      refine wOp_step (fun st' a' w' Pr' b' hk' hS' => ih (F1 ++ F2) _ st' a' w' Pr' b' (by simpa using hsz) (fun i2 o2 ho2 hl2 e he hb => ?_) (fun j => ?_) ?_ ?_ ?_ hS') (List.all_eq_true.1 hd o (by
        have := Array.getElem?_eq_some_iff.1 ho
        obtain ⟨h3, rfl⟩ := this
        simp)) h2 hS
      · by_cases e3 : e.on = i
        · rw [e3]
          have hlt2 : i < listed.size := by omega
          simp [Array.getD, hlt2]
        · rw [getD_set_ne true (fun h => e3 h.symm)]
          by_cases e4 : i2 = i
          · subst e4; exact hpre' o2 ho2 e he hb
          · rw [getD_set_ne true (fun h => e4 h.symm)] at hl2
            exact hcl i2 o2 ho2 hl2 e he hb
      · by_cases e : j = i
        · subst e
          have hn : j ∉ F1 ++ F2 := by
            intro hm2
            rcases List.mem_append.1 hm2 with h3 | h3
            · have := hp2.2.2 j h3 j List.mem_cons_self; omega
            · have := (List.pairwise_cons.1 hp2.2.1).1 j h3; omega
          have hlt2 : j < listed.size := by omega
          have : (listed.setIfInBounds j true).getD j true = true := by simp [Array.getD, hlt2]
          rw [this]
          simp only [Bool.true_eq_false, and_false, iff_false]
          exact hn
        · rw [getD_set_ne true (fun h => e h.symm), ← hm j]
          simp [e]
      · refine List.pairwise_append.2 ⟨hp2.1, (List.pairwise_cons.1 hp2.2.1).2, fun x hx y hy => hp2.2.2 x hx y (List.mem_cons_of_mem _ hy)⟩
      · simp at hl ⊢; omega
      · rw [List.filterMap_append]; exact hk'

theorem SR.drawn {st : St} {a : Act} {w : World} {Pr : Addr → Prop} {b : List Nat} {xs : List AC} {vs : List Value} (h : SR C st a w Pr b xs vs) (n : Nat) : SR C st a { w with drawn := n } Pr b xs vs := by
  obtain ⟨Le, Ll, Lx, Lk, h⟩ := h
  have hp : ∀ p, Pr p → Pr p ∧ World.cell? { w with drawn := n } p = w.cell? p := fun p hp => ⟨hp, rfl⟩
  have hk : ∀ g, Kept w Pr { w with drawn := n } Pr g := fun g => ⟨rfl, fun a h _ => h⟩
  exact ⟨Le, Ll, Lx, Lk, ⟨h.env.kept hp fun g _ => hk g, h.loc.kept hp fun g _ => hk g, h.reg.kept hp fun g _ => hk g, h.K.kept hp (fun g _ => hk g) fun g _ => hk g, h.cnt, h.new, h.kE, h.kL, h.prlt,
    ⟨h.since.os, h.since.tape, h.since.output, h.since.size, h.since.block, h.since.prot, h.since.newPr⟩, h.defers, h.size⟩⟩

theorem SR.ag {s s0 : St} {a : Act} {w : World} {Pr : Addr → Prop} {b : List Nat} {xs : List AC} {vs : List Value} (h : SR C s a w Pr b xs vs) (hag : Ag (fun _ => True) s0 s) (h1 : (s0.env.map (·.1)).Nodup) (h2 : (s0.loc.map (·.1)).Nodup) :
    SR C s0 a w Pr b xs vs := by
  obtain ⟨Le, Ll, Lx, Lk, h⟩ := h
  obtain ⟨Le', r1, c1⟩ := h.env.le h1 (fun k v hv => ⟨v, by rw [← (hag.1 k trivial).1]; exact hv, .refl⟩)
  obtain ⟨Ll', r2, c2⟩ := h.loc.le h2 (fun k v hv => ⟨v, by rw [← (hag.1 k trivial).2]; exact hv, .refl⟩)
  refine ⟨Le', Ll', Lx, Lk, ⟨r1, r2, h.reg, by rw [hag.2]; exact h.K, fun x => ?_, fun x hx => h.new x ?_, ⟨h1, fun k hk => ?_⟩, ⟨h2, fun k hk => ?_⟩, h.prlt, h.since, h.defers, h.size⟩⟩
  · have := h.cnt x; have := c1 x; have := c2 x; omega
  · have := c1 x; have := c2 x; omega
  · obtain ⟨v, hv⟩ := mem_look' _ _ hk
    rw [(hag.1 k trivial).1] at hv
    exact h.kE.2 k (mem_look _ _ _ hv)
  · obtain ⟨v, hv⟩ := mem_look' _ _ hk
    rw [(hag.1 k trivial).2] at hv
    exact h.kL.2 k (mem_look _ _ _ hv)

theorem drawOk_qr {n0 : Nat} {ex tk kp xr qs th : List Nat} {es : Bool} {bw : List FuncId} {qr qr' : List (Nat × AC)} {kd : Bool} {ops : List Oper} : drawOk ⟨n0, ex, tk, kp, es, xr, bw, qs, qr, th⟩ kd ops = drawOk ⟨n0, ex, tk, kp, es, xr, bw, qs, qr', th⟩ kd ops := rfl
theorem draw_sound {id : Nat} (hm : C.P.follows .mixedOrders = true) (hck : drawOk C.fi kd ops.toList = true) (hd : ops.toList.all (opDst C.N) = true) {k : St → Prop}
    (hk : ∀ st' a' w' Pr' b', k st' → SR C st' a' w' Pr' b' [] [] → Q .normal a' w') {st : St} {a : Act} {w : World} {Pr : Addr → Prop} {b : List Nat}
    (h : wOpsD C.P C.fi kd ops.toList ops.toList (fun s => (s.env.map (·.1)).Nodup ∧ (s.loc.map (·.1)).Nodup ∧ k s) st) (hS : SR C st a w Pr b [] []) : (Code.region id ops true).wp C.P Q a w := by
  refine wp_region_any hm ?_
  let k' : St → Prop := fun s => ∃ s0, Ag (fun _ => True) s0 s ∧ (s0.env.map (·.1)).Nodup ∧ (s0.loc.map (·.1)).Nodup ∧ k s0
  have hR : Resp k' := fun s s' hag ⟨s0, g, r⟩ => ⟨s0, ⟨fun t ht => ⟨(g.1 t ht).1.trans (hag.1 t ht).1, (g.1 t ht).2.trans (hag.1 t ht).2⟩, g.2.trans hag.2⟩, r⟩
  have hmono : ∀ (l : List Oper) (st : St), wOpsD C.P C.fi kd ops.toList l (fun s => (s.env.map (·.1)).Nodup ∧ (s.loc.map (·.1)).Nodup ∧ k s) st → wOpsD C.P C.fi kd ops.toList l k' st := by
    intro l
    induction l with
    | nil => intro st hh; exact ⟨st, Ag.refl, hh⟩
    | cons o l ih => intro st hh; exact wOpD_mono (resp_ops hR) ih hh
  have hrange : (List.range ops.size).filterMap (ops[·]?) = ops.toList := by
    have : ∀ n, n ≤ ops.size → (List.range n).filterMap (ops[·]?) = ops.toList.take n := by
      intro n
      induction n with
      | zero => intro _; simp
      | succ n ih =>
        intro hn
        rw [List.range_succ, List.filterMap_append, ih (by omega), List.take_add_one]
        have e : ops[n]? = some ops[n] := Array.getElem?_eq_getElem (by omega)
        simp [e]
    rw [this _ (Nat.le_refl _), List.take_of_length_le (by simp)]
  refine draw_any (k := k') (kd := kd) hck hd hR (fun st' a' w' Pr' b' ⟨s0, g, n1, n2, hk0⟩ hS' => hk _ _ _ _ _ hk0 (hS'.ag g n1 n2)) ops.size (List.range ops.size) _ st a _ Pr b (by simp) (fun i o ho hl => by
    have := (Array.getElem?_eq_some_iff.1 ho).1
    simp [Array.getD, this] at hl) (fun i => by
    simp [Array.getD]) List.pairwise_lt_range (by simp) (by rw [hrange]; exact hmono _ _ h) (hS.drawn _)
end
end Go.Proofs.YtkpdlbidadcdjaaDoor.Abs
