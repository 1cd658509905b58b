/- Regions in which two operations may come either way round. No condition. -/
import Derived.Test.YtkefgpmnimpcdaaGreatDoorAbsZ
set_option linter.unusedVariables false
set_option linter.unusedSimpArgs false
namespace Go.Proofs.YtkefgpmnimpcdaaGreatDoor.Abs
open Go
section
variable {C : Cx} {kd : Bool} {ops : Array Oper} {Q : Exit → Act → World → Prop} {P : Program} {fi : FI} {st : St}

/-! Two operations either way round. -/
theorem un_and {gd : Option Bool} {v : AC} {k1 k2 : AC → Prop} (h1 : un gd v k1) (h2 : un gd v k2) : un gd v (fun u => k1 u ∧ k2 u) := by
  cases v with
  | opt g v => exact ⟨h1.1, h1.2, h2.2⟩
  | nam y v => exact ⟨h1, h2⟩
  | _ => exact ⟨h1, h2⟩
theorem wD_and {m : Bool} {gd : Option Bool} {dst : Option Nat} {op : Go.Op} {k1 k2 k3 : AC → St → Prop} (hdet : detOp op = true) (hk : ∀ v s, k1 v s → k2 v s → k3 v s)
    (h1 : wDoD P fi m gd dst op st k1) (h2 : wDoD P fi m gd dst op st k2) : wDoD P fi m gd dst op st k3 := by
  cases op with
  | move x =>
    have h1 : wD_move P fi m gd dst x st k1 := h1
    have h2 : wD_move P fi m gd dst x st k2 := h2
    show wD_move P fi m gd dst x st k3
    cases x with
    | tmp t =>
      by_cases hc : (m && fi.takes dst) = true
      · simp only [wD_move, hc, if_true] at h1 h2 ⊢
        exact un_mono (fun u hu => hk _ _ hu.1 hu.2) (un_and h1 h2)
      · have hc : (m && fi.takes dst) = false := by simpa using hc
        simp only [wD_move, hc, Bool.false_eq_true, if_false] at h1 h2 ⊢
        cases hv : st.get t with
        | nam y v =>
          rw [hv] at h1 h2
          by_cases hx : isX v = true
          · simp only [hx, if_true] at h1 h2 ⊢; exact hk _ _ h1 h2
          · have hx : isX v = false := by simpa using hx
            simp only [hx, Bool.false_eq_true, if_false] at h1 h2 ⊢; exact hk _ _ h1 h2
        | opt g v => rw [hv] at h1 h2; exact ⟨h1.1, hk _ _ h1.2 h2.2⟩
        | _ => rw [hv] at h1 h2; exact hk _ _ h1 h2
    | _ => exact hk _ _ h1 h2
  | fieldAddr s x f =>
    have h1 : wD_fieldAddr P fi m gd dst s x f st k1 := h1
    have h2 : wD_fieldAddr P fi m gd dst s x f st k2 := h2
    show wD_fieldAddr P fi m gd dst s x f st k3
    unfold wD_fieldAddr at h1 h2 ⊢
    cases htd : tdOf P s with
    | struct fs =>
      rw [htd] at h1 h2
      simp only at h1 h2 ⊢
      cases hf : fs[f]? with
      | none => rw [hf] at h1; exact h1.elim
      | some z =>
        obtain ⟨off, sz, ty⟩ := z
        rw [hf] at h1 h2
        simp only at h1 h2 ⊢
        refine ⟨h1.1, un_mono (fun u hu => ?_) (un_and h1.2 h2.2)⟩
        cases u with
        | ptr u i o => exact hk _ _ hu.1 hu.2
        | ref cells => exact ⟨hu.1.1, hk _ _ hu.1.2 hu.2.2⟩
        | ept s y o => exact hk _ _ hu.1 hu.2
        | _ => exact hu.1.elim
    | _ => rw [htd] at h1; exact h1.elim
  | _ => simp [detOp] at hdet
theorem wOpD_and {k1 k2 : St → Prop} {o : Oper} {opl : List Oper} (hdet : detOp o.op = true) (hg : o.guard = none) (h1 : wOpD P fi kd opl o k1 st) (h2 : wOpD P fi kd opl o k2 st) : wOpD P fi kd opl o (fun s => k1 s ∧ k2 s) st := by
  unfold wOpD at h1 h2 ⊢
  rw [hg] at h1 h2 ⊢
  simp only at h1 h2 ⊢
  exact wD_and hdet (fun v s a1 a2 => ⟨a1.1, a1.2, a2.2⟩) h1 h2

theorem drawOk2_at {fi : FI} {p q : Nat} (h : drawOk2 fi kd p q ops.toList = true) : p < q ∧ q < ops.size ∧ ∀ {i : Nat} {o : Oper}, ops[i]? = some o →
    (∀ e ∈ o.after, Region.binds .any e = true → e.on < i) ∧ (∀ j x, j < i → ops[j]? = some x → (i = q ∧ j = p) ∨ Rch ops.toList j i ∨ swapOk fi kd ops.toList x o = true) ∧
    (i = p ∨ i = q ∨ Rch ops.toList p i ∨ Rch ops.toList q i ∨ (detOp o.op = true ∧ o.guard = none)) ∧ (p < i → i < q → Rch ops.toList i q) := by
  simp only [drawOk2, Bool.and_eq_true, decide_eq_true_eq] at h
  obtain ⟨⟨hpq, hq⟩, h⟩ := h
  refine ⟨hpq, by simpa using hq, ?_⟩
  intro i o ho
  have hlt : i < ops.size := (Array.getElem?_eq_some_iff.1 ho).1
  have h1 := List.all_eq_true.1 h i (by simpa using hlt)
  rw [show ops.toList[i]? = some o by simpa using ho] at h1
  simp only [Bool.and_eq_true, Bool.or_eq_true, beq_iff_eq] at h1
  obtain ⟨⟨⟨h1, h2⟩, h3⟩, h4⟩ := h1
  have rch : ∀ {i j : Nat}, ((masks ops.toList []).getD i 0).testBit j = true → Rch ops.toList j i := fun {i j} hb => masks_rch ops.toList [] (by simp) (fun i hi => by simp at hi) i hb
  refine ⟨fun e he hb => ?_, fun j x hj hx => ?_, ?_, fun a1 a2 => ?_⟩
  · have := List.all_eq_true.1 h1 e (by simpa using he)
    simpa [hb] using this
  · have := List.all_eq_true.1 h2 j (by simpa using hj)
    rw [show ops.toList[j]? = some x by simpa using hx] at this
    simp only [Bool.or_eq_true, Bool.and_eq_true, beq_iff_eq] at this
    rcases this with (h5 | h5) | h5
    · exact .inl h5
    · exact .inr (.inl (rch h5))
    · exact .inr (.inr h5)
  · rcases h3 with (((h5 | h5) | h5) | h5) | h5
    · exact .inl h5
    · exact .inr (.inl h5)
    · exact .inr (.inr (.inl (rch h5)))
    · exact .inr (.inr (.inr (.inl (rch h5))))
    · exact .inr (.inr (.inr (.inr ⟨h5.1, by simpa using h5.2⟩)))
  · rcases h4 with h5 | h5
    · simp [a1, a2] at h5
    · exact rch h5

theorem ordB_app {p q : Nat} {a b : List Nat} : ordB p q (a ++ b) = ordB p q a ++ ordB p q b := by simp [ordB]
theorem ordB_id {p q : Nat} : ∀ {a : List Nat}, p ∉ a → q ∉ a → ordB p q a = a := by
  intro a
  induction a with
  | nil => intro _ _; rfl
  | cons x a ih =>
    intro h1 h2
    have e1 : x ≠ p := fun e => h1 (by simp [e])
    have e2 : x ≠ q := fun e => h2 (by simp [e])
    have := ih (fun h => h1 (List.mem_cons_of_mem _ h)) (fun h => h2 (List.mem_cons_of_mem _ h))
    simp only [ordB, List.flatMap_cons, e1, e2, if_false] at this ⊢
    rw [this]; rfl
theorem ordB_mem {p q x : Nat} {a : List Nat} (h : x ∈ ordB p q a) : x ∈ a ∨ (x = p ∧ q ∈ a) := by
  obtain ⟨y, hy, hx⟩ := List.mem_flatMap.1 h
  by_cases e1 : y = p
  · simp [e1] at hx
  · by_cases e2 : y = q
    · simp only [e2, e2 ▸ e1, if_false, if_true] at hx
      rcases List.mem_cons.1 hx with h3 | h3
      · rw [h3, ← e2]; exact .inl hy
      · exact .inr ⟨by simpa using h3, e2 ▸ hy⟩
    · simp only [e1, e2, if_false] at hx
      rw [List.mem_singleton.1 hx]; exact .inl hy
theorem ordB_one {p q i : Nat} (h1 : i ≠ p) (h2 : i ≠ q) {F1 F2 : List Nat} : ordB p q (F1 ++ i :: F2) = ordB p q F1 ++ i :: ordB p q F2 := by
  rw [ordB_app]; simp [ordB, h1, h2]
variable [hqq : Quiet C.fi]
theorem draw_any2 {p q : Nat} (hck : drawOk2 C.fi kd p q ops.toList = true) (hd : ops.toList.all (opDst C.N) = true) {k : St → Prop} (hR : Resp k)
    (hk : ∀ st' a' w' Pr' b', k st' → SR C st' a' w' Pr' b' [] [] → Q .normal a' w') :
    ∀ (fuel : Nat) (idx : List Nat) (listed : Array Bool) (st : St) (a : Act) (w : World) (Pr : Addr → Prop) (b : List Nat), listed.size = ops.size →
      Clo ops listed → (∀ i, i ∈ idx ↔ i < ops.size ∧ listed.getD i true = false) → idx.Pairwise (· < ·) → idx.length ≤ fuel →
      wOpsD C.P C.fi kd ops.toList (idx.filterMap (ops[·]?)) k st →
      (listed.getD p true = false → listed.getD q true = false → wOpsD C.P C.fi kd ops.toList ((ordB p q idx).filterMap (ops[·]?)) k st) → SR C st a w Pr b [] [] → wpAny C.P .any ops Q fuel listed a w := by
  obtain ⟨hpq, hqs, hat⟩ := drawOk2_at hck
  have nil : ∀ (idx : List Nat) (listed : Array Bool), listed.size = ops.size → (∀ i, i ∈ idx ↔ i < ops.size ∧ listed.getD i true = false) → idx.Pairwise (· < ·) → Region.ready .any ops listed = [] → idx = [] := by
    intro idx listed hsz hm hp hr
    cases idx with
    | nil => rfl
    | cons i r =>
      exfalso
      obtain ⟨hi, hl⟩ := (hm i).1 List.mem_cons_self
      have ho : ops[i]? = some ops[i] := Array.getElem?_eq_getElem hi
      have : i ∈ Region.ready .any ops listed := by
        rw [mem_ready]
        refine ⟨hl, _, ho, fun e he hb => ?_⟩
        have hlt := (hat ho).1 e he hb
        have hn : e.on ∉ i :: r := by
          intro hmem
          rcases List.mem_cons.1 hmem with h1 | h1
          · omega
          · have := (List.pairwise_cons.1 hp).1 _ h1; omega
        have h2 : ¬ (e.on < ops.size ∧ listed.getD e.on true = false) := fun h => hn ((hm _).2 h)
        have h3 : e.on < ops.size := by omega
        rw [getD_lt (by omega) false true]
        cases h4 : listed.getD e.on true with
        | true => rfl
        | false => exact absurd ⟨h3, h4⟩ h2
      rw [hr] at this
      cases this
  intro fuel
  induction fuel with
  | zero =>
    intro idx listed st a w Pr b hsz hcl hm hp hl hA hB hS
    obtain rfl : idx = [] := List.eq_nil_of_length_eq_zero (by omega)
    refine ⟨?_, hk _ _ _ _ _ hA hS⟩
    cases hr : Region.ready .any ops listed with
    | nil => rfl
    | cons i r =>
      have hi : i ∈ Region.ready .any ops listed := by rw [hr]; exact List.mem_cons_self
      obtain ⟨h0, o, ho, _⟩ := mem_ready.1 hi
      have := (hm i).2 ⟨(Array.getElem?_eq_some_iff.1 ho).1, h0⟩
      cases this
  | succ fuel ih =>
    intro idx listed st a w Pr b hsz hcl hm hp hl hA hB hS
    refine ⟨fun hr => ?_, fun i hi => ?_⟩
    · obtain rfl := nil idx listed hsz hm hp hr
      exact hk _ _ _ _ _ hA hS
    · obtain ⟨h0, o, ho, hpre⟩ := mem_ready.1 hi
      have hlt : i < ops.size := (Array.getElem?_eq_some_iff.1 ho).1
      have hmem := (hm i).2 ⟨hlt, h0⟩
      obtain ⟨hb1, hb2, hb3, _⟩ := hat ho
      have hpre' : ∀ o', ops[i]? = some o' → ∀ e ∈ o'.after, Region.binds .any e = true → listed.getD e.on true = true := by
        intro o' ho' e he hb
        rw [ho] at ho'; cases ho'
        have h2 := hpre e he hb
        have h3 := hb1 e he hb
        rwa [getD_lt (by omega) true false]
      have hun : ∀ j, listed.getD j true = false → ¬ Rch ops.toList j i := by
        intro j hj h1
        have h2 := rch_listed hcl h1 hpre'
        rw [hj] at h2
        cases h2
      obtain ⟨F1, F2, rfl⟩ := List.append_of_mem hmem
      have hp2 := List.pairwise_append.1 hp
      have e1 : ∀ (G1 G2 : List Nat), (G1 ++ i :: G2).filterMap (ops[·]?) = G1.filterMap (ops[·]?) ++ o :: G2.filterMap (ops[·]?) := by
        intro G1 G2
        rw [List.filterMap_append, List.filterMap_cons]; simp only [ho]
      have hswG : ∀ G : List Nat, (∀ j ∈ G, j < i ∧ listed.getD j true = false ∧ ¬ (i = q ∧ j = p)) → ∀ x ∈ G.filterMap (ops[·]?), swapOk C.fi kd ops.toList x o = true := by
        intro G hG x hx
        obtain ⟨j, hj, hjx⟩ := List.mem_filterMap.1 hx
        obtain ⟨g1, g2, g3⟩ := hG j hj
        rcases hb2 j x g1 hjx with h1 | h1 | h1
        · exact absurd h1 g3
        · exact absurd h1 (hun j g2)
        · exact h1
      have hF1 : ∀ j ∈ F1, j < i ∧ listed.getD j true = false := fun j hj => ⟨hp2.2.2 j hj i List.mem_cons_self, ((hm j).1 (List.mem_append_left _ hj)).2⟩
      have hi2 : i < listed.size := by omega
      have hset : (listed.setIfInBounds i true).getD i true = true := by simp [Array.getD, hi2]
      let kk : St → Prop := fun s => wOpsD C.P C.fi kd ops.toList ((F1 ++ F2).filterMap (ops[·]?)) k s ∧
        ((listed.setIfInBounds i true).getD p true = false → (listed.setIfInBounds i true).getD q true = false → wOpsD C.P C.fi kd ops.toList ((ordB p q (F1 ++ F2)).filterMap (ops[·]?)) k s)
      have hRk : Resp kk := fun s s' hag ⟨h1, h2⟩ => ⟨resp_ops hR s s' hag h1, fun a1 a2 => resp_ops hR s s' hag (h2 a1 a2)⟩
      have h2 : wOp C.P C.fi true ops.toList o kk st := by
        refine wOpD_wOp (kd := kd) hRk ?_
        by_cases hc : listed.getD p true = false ∧ listed.getD q true = false ∧ i ≠ p
        · obtain ⟨c1, c2, c3⟩ := hc
          by_cases c4 : i = q
          · -- q ahead of p
            have hpm : p ∈ F1 := by
              have := (hm p).2 ⟨by omega, c1⟩
              rcases List.mem_append.1 this with h3 | h3
              · exact h3
              · rcases List.mem_cons.1 h3 with h4 | h4
                · omega
                · have := (List.pairwise_cons.1 hp2.2.1).1 p h4; omega
            obtain ⟨G1, G2, rfl⟩ := List.append_of_mem hpm
            have hp3 := List.pairwise_append.1 hp2.1
            have hG2 : G2 = [] := by
              cases G2 with
              | nil => rfl
              | cons x r =>
                exfalso
                have g1 := (List.pairwise_cons.1 hp3.2.1).1 x List.mem_cons_self
                have g2 := hF1 x (by simp)
                have hx : x < ops.size := by omega
                have g3 := (hat (Array.getElem?_eq_getElem hx)).2.2.2 g1 (by omega)
                rw [← c4] at g3
                exact hun x g2.2 g3
            subst hG2
            have n1 : p ∉ G1 := fun h => by have := hp3.2.2 p h p List.mem_cons_self; omega
            have n2 : q ∉ G1 := fun h => by have := hp3.2.2 q h p List.mem_cons_self; omega
            have n3 : p ∉ F2 := fun h => by have := (List.pairwise_cons.1 hp2.2.1).1 p h; omega
            have n4 : q ∉ F2 := fun h => by have := (List.pairwise_cons.1 hp2.2.1).1 q h; omega
            have hB' := hB c1 c2
            have e2 : ordB p q (G1 ++ [p] ++ i :: F2) = G1 ++ i :: (p :: F2) := by
              rw [ordB_app, ordB_app, ordB_id n1 n2, show i :: F2 = [i] ++ F2 from rfl, ordB_app, ordB_id n3 n4]
              simp [ordB, c4, c3, c4 ▸ c3]
            rw [e2, e1] at hB'
            have h4 := front hR (hswG G1 fun j hj => ⟨(hF1 j (by simp [hj])).1, (hF1 j (by simp [hj])).2, fun h => n1 (h.2 ▸ hj)⟩) hB'
            refine wOpD_mono hRk (fun s hs => ⟨?_, fun _ h => ?_⟩) h4
            · rw [← List.filterMap_append] at hs
              simpa using hs
            · rw [← c4, hset] at h; cases h
          · -- plain, ahead of both
            have hdet : detOp o.op = true ∧ o.guard = none := by
              rcases hb3 with h3 | h3 | h3 | h3 | h3
              · exact absurd h3 c3
              · exact absurd h3 c4
              · exact absurd h3 (hun p c1)
              · exact absurd h3 (hun q c2)
              · exact h3
            have hB' := hB c1 c2
            rw [ordB_one c3 c4, e1] at hB'
            rw [e1] at hA
            have g1 := front hR (hswG F1 fun j hj => ⟨(hF1 j hj).1, (hF1 j hj).2, fun h => c4 h.1⟩) hA
            have g2 := front hR (hswG (ordB p q F1) fun j hj => by
              rcases ordB_mem hj with h3 | ⟨h3, h4⟩
              · exact ⟨(hF1 j h3).1, (hF1 j h3).2, fun h => c4 h.1⟩
              · have := (hF1 q h4).1
                exact ⟨by omega, by rw [h3]; exact c1, fun h => c4 h.1⟩) hB'
            refine wOpD_mono hRk (fun s hs => ⟨?_, fun _ _ => ?_⟩) (wOpD_and hdet.1 hdet.2 g1 g2)
            · rw [List.filterMap_append]; exact hs.1
            · rw [ordB_app, List.filterMap_append]; exact hs.2
        · rw [e1] at hA
          have g1 := front hR (hswG F1 fun j hj => ⟨(hF1 j hj).1, (hF1 j hj).2, fun h => hc ⟨h.2 ▸ (hF1 j hj).2, h.1 ▸ h0, by omega⟩⟩) hA
          refine wOpD_mono hRk (fun s hs => ⟨?_, fun d1 d2 => ?_⟩) g1
          · rw [List.filterMap_append]; exact hs
          · exfalso
            by_cases f1 : i = p
            · rw [← f1, hset] at d1; cases d1
            · by_cases f2 : i = q
              · rw [← f2, hset] at d2; cases d2
              · rw [getD_set_ne true f1] at d1
                rw [getD_set_ne true f2] at d2
                exact hc ⟨d1, d2, f1⟩
      unfold wpOp
      simp only [ho]
      refine wOp_step (fun st' a' w' Pr' b' hk' hS' => ih (F1 ++ F2) _ st' a' w' Pr' b' (by simpa using hsz) (fun i2 o2 ho2 hl2 e he hb => ?_) (fun j => ?_) ?_ ?_ hk'.1 hk'.2 hS') (List.all_eq_true.1 hd o (by
        have := Array.getElem?_eq_some_iff.1 ho
        obtain ⟨h3, rfl⟩ := this
        simp)) h2 hS
      · by_cases e3 : e.on = i
        · rw [e3]
          have hlt2 : i < listed.size := by omega
          simp [Array.getD, hlt2]
        · rw [getD_set_ne true (fun h => e3 h.symm)]
          by_cases e4 : i2 = i
          · subst e4; exact hpre' o2 ho2 e he hb
          · rw [getD_set_ne true (fun h => e4 h.symm)] at hl2
            exact hcl i2 o2 ho2 hl2 e he hb
      · by_cases e : j = i
        · subst e
          have hn : j ∉ F1 ++ F2 := by
            intro hm2
            rcases List.mem_append.1 hm2 with h3 | h3
            · have := hp2.2.2 j h3 j List.mem_cons_self; omega
            · have := (List.pairwise_cons.1 hp2.2.1).1 j h3; omega
          rw [hset]
          simp only [Bool.true_eq_false, and_false, iff_false]
          exact hn
        · rw [getD_set_ne true (fun h => e h.symm), ← hm j]
          simp [e]
      · refine List.pairwise_append.2 ⟨hp2.1, (List.pairwise_cons.1 hp2.2.1).2, fun x hx y hy => hp2.2.2 x hx y (List.mem_cons_of_mem _ hy)⟩
      · simp at hl ⊢; omega

theorem draw_sound2 {id : Nat} {p q : Nat} (hm : C.P.follows .mixedOrders = true) (hck : drawOk2 C.fi kd p q ops.toList = true) (hd : ops.toList.all (opDst C.N) = true) {k : St → Prop}
    (hk : ∀ st' a' w' Pr' b', k st' → SR C st' a' w' Pr' b' [] [] → Q .normal a' w') {st : St} {a : Act} {w : World} {Pr : Addr → Prop} {b : List Nat}
    (hA : wOpsD C.P C.fi kd ops.toList ops.toList (fun s => (s.env.map (·.1)).Nodup ∧ (s.loc.map (·.1)).Nodup ∧ k s) st)
    (hB : wOpsD C.P C.fi kd ops.toList ((ordB p q (List.range ops.size)).filterMap (ops[·]?)) (fun s => (s.env.map (·.1)).Nodup ∧ (s.loc.map (·.1)).Nodup ∧ k s) st) (hS : SR C st a w Pr b [] []) : (Code.region id ops true).wp C.P Q a w := by
  refine wp_region_any hm ?_
  let k' : St → Prop := fun s => ∃ s0, Ag (fun _ => True) s0 s ∧ (s0.env.map (·.1)).Nodup ∧ (s0.loc.map (·.1)).Nodup ∧ k s0
  have hR : Resp k' := fun s s' hag ⟨s0, g, r⟩ => ⟨s0, ⟨fun t ht => ⟨(g.1 t ht).1.trans (hag.1 t ht).1, (g.1 t ht).2.trans (hag.1 t ht).2⟩, g.2.trans hag.2⟩, r⟩
  have hmono : ∀ (l : List Oper) (st : St), wOpsD C.P C.fi kd ops.toList l (fun s => (s.env.map (·.1)).Nodup ∧ (s.loc.map (·.1)).Nodup ∧ k s) st → wOpsD C.P C.fi kd ops.toList l k' st := by
    intro l
    induction l with
    | nil => intro st hh; exact ⟨st, Ag.refl, hh⟩
    | cons o l ih => intro st hh; exact wOpD_mono (resp_ops hR) ih hh
  have hrange : (List.range ops.size).filterMap (ops[·]?) = ops.toList := by
    have : ∀ n, n ≤ ops.size → (List.range n).filterMap (ops[·]?) = ops.toList.take n := by
      intro n
      induction n with
      | zero => intro _; simp
      | succ n ih =>
        intro hn
        rw [List.range_succ, List.filterMap_append, ih (by omega), List.take_add_one]
        have e : ops[n]? = some ops[n] := Array.getElem?_eq_getElem (by omega)
        simp [e]
    rw [this _ (Nat.le_refl _), List.take_of_length_le (by simp)]
  refine draw_any2 (k := k') (kd := kd) hck hd hR (fun st' a' w' Pr' b' ⟨s0, g, n1, n2, hk0⟩ hS' => hk _ _ _ _ _ hk0 (hS'.ag g n1 n2)) ops.size (List.range ops.size) _ st a _ Pr b (by simp) (fun i o ho hl => by
    have := (Array.getElem?_eq_some_iff.1 ho).1
    simp [Array.getD, this] at hl) (fun i => by
    simp [Array.getD]) List.pairwise_lt_range (by simp) (by rw [hrange]; exact hmono _ _ hA) (fun _ _ => hmono _ _ hB) (hS.drawn _)
end
end Go.Proofs.YtkefgpmnimpcdaaGreatDoor.Abs
/- Regions of which all but the last operation yield what a table tells: any order. No condition. -/
namespace Go.Proofs.YtkefgpmnimpcdaaGreatDoor.Abs
open Go
theorem Reps.pure1 {P : Program} {w : World} {Pr : Addr → Prop} {bl : List (List Nat)} : ∀ {cs : List AC} {vs : List Value} {L : List Nat}, Reps P w Pr bl cs vs L → cs.all Abs.pure1 = true → ∀ (w' : World) (Pr' : Addr → Prop) (bl' : List (List Nat)), Reps P w' Pr' bl' cs vs [] := by
  intro cs; induction cs with
  | nil => intro vs L h _ w' Pr' bl'; cases h; exact .nil
  | cons c cs ih =>
    intro vs L h hp w' Pr' bl'
    simp only [List.all_cons, Bool.and_eq_true] at hp
    cases h with
    | cons h1 h2 =>
      refine Reps.cons (L := []) (M := []) ?_ (ih h2 hp.2 w' Pr' bl')
      have h0 := hp.1
      cases h1 with
      | bool => exact .bool
      | int => exact .int
      | str h1 h2 => exact .str h1 h2
      | _ => simp [Abs.pure1] at h0
theorem Rep.pure {P : Program} {w : World} {Pr : Addr → Prop} {bl : List (List Nat)} {v : AC} {x : Value} {L : List Nat} (h : Rep P w Pr bl v x L) (hp : pureV v = true) : ∀ (w' : World) (Pr' : Addr → Prop) (bl' : List (List Nat)), Rep P w' Pr' bl' v x [] := by
  intro w' Pr' bl'
  cases h with
  | bool => exact .bool
  | int => exact .int
  | str h1 h2 => exact .str h1 h2
  | als h1 h2 => exact .als h1 h2
  | alsA => exact .alsA
  | ept => exact .ept
  | agg h1 h2 => exact .agg (h1.pure1 (by simpa [pureV] using hp) w' Pr' bl') h2
  | _ => simp [pureV] at hp
theorem RepE.mem {P : Program} {w : World} {Pr : Addr → Prop} {bl : List (List Nat)} {tmps : Array Value} : ∀ {env : List (Nat × AC)} {L : List Nat} {x : Nat × AC}, RepE P w Pr bl tmps env L → x ∈ env → ∃ z L', tmps[x.1]? = some z ∧ Rep P w Pr bl x.2 z L' := by
  intro env; induction env with
  | nil => intro L x _ h; cases h
  | cons e env ih =>
    intro L x h hx
    obtain ⟨k, v⟩ := e
    obtain ⟨L1, L2, z, h1, h2, h3, _⟩ := h
    rcases List.mem_cons.1 hx with rfl | hx
    · exact ⟨z, L1, h1, h2⟩
    · exact ih h3 hx
theorem Rep.pureP {P : Program} {w w' : World} {Pr Pr' : Addr → Prop} {bl bl' : List (List Nat)} {tmps tmps' : Array Value} {env : List (Nat × AC)} {L1 L2 L : List Nat} {v : AC} {x : Value} (h : Rep P w Pr bl v x L) (hp : Abs.pureP env v = true)
    (hE : RepE P w Pr bl tmps env L1) (hE' : RepE P w' Pr' bl' tmps' env L2) (ht : ∀ y ∈ env, tmps'[y.1]? = tmps[y.1]?) : Rep P w' Pr' bl' v x [] := by
  unfold Abs.pureP at hp
  split at hp
  · obtain ⟨y, hy, hm⟩ := List.any_eq_true.1 hp
    obtain ⟨z, M, h1, h2⟩ := hE.mem hy
    obtain ⟨z', M', h1', h2'⟩ := hE'.mem hy
    rw [ht y hy, h1] at h1'
    cases h1'
    obtain ⟨k, c⟩ := y
    simp only at hm h2 h2'
    split at hm
    · simp only [Bool.and_eq_true, beq_iff_eq] at hm
      obtain ⟨rfl, rfl⟩ := hm
      cases h with
      | ptr g1 =>
        cases h2 with
        | ptr g2 =>
          cases h2' with
          | ptr g3 =>
            rw [g1] at g2
            cases g2
            exact .ptr g3
    · cases hm
  · exact h.pure hp w' Pr' bl'
theorem wTab_at {P : Program} {fi : FI} {T : List (Nat × AC)} {st : St} {k : St → Prop} : ∀ {l : List (Nat × AC)} {os : List Oper}, wTab P fi T st k l os → (∀ (i : Nat) (x : Nat × AC), l[i]? = some x → ∃ o, os[i]? = some o ∧ wDo P fi true none o.dst o.op (tabSt T o st) (fun u s => u = x.2 ∧ s.env = st.env ∧ s.K = st.K)) ∧
    ∃ o, os[l.length]? = some o ∧ wDo P fi true none o.dst o.op (tabSt T o st) (putK fi o.dst k) := by
  intro l; induction l with
  | nil =>
    intro os h
    cases os with
    | nil => rw [wTab.eq_3] at h; exact h.elim; all_goals (intros; first | (rename_i e; cases e; done) | (rename_i e _; cases e; done))
    | cons o os =>
      cases os with
      | nil => rw [wTab.eq_1] at h; exact ⟨fun i x hx => by simp at hx, o, rfl, h⟩
      | cons o2 os => rw [wTab.eq_3] at h; exact h.elim; all_goals (intros; first | (rename_i e; cases e; done) | (rename_i e _; cases e; done))
  | cons y l ih =>
    intro os h
    obtain ⟨y1, y2⟩ := y
    cases os with
    | nil => rw [wTab.eq_3] at h; exact h.elim; all_goals (intros; first | (rename_i e; cases e; done) | (rename_i e _; cases e; done))
    | cons o os =>
      rw [wTab.eq_2] at h
      obtain ⟨h1, h2⟩ := h
      obtain ⟨g1, o', g2, g3⟩ := ih h2
      refine ⟨fun i x hx => ?_, o', g2, g3⟩
      cases i with
      | zero =>
        rw [List.getElem?_cons_zero] at hx
        cases hx
        exact ⟨o, rfl, h1⟩
      | succ i =>
        rw [List.getElem?_cons_succ] at hx
        obtain ⟨o2, e1, e2⟩ := g1 i x hx
        exact ⟨o2, e1, e2⟩
section
variable {C : Cx} {Q : Exit → Act → World → Prop} {ops : Array Oper}
theorem tabOk_at {fi : FI} {keys : List Nat} (h : tabOk fi keys ops.toList = true) : ops.size = keys.length + 1 ∧ keys.Nodup ∧ ∀ {i : Nat} {o : Oper}, ops[i]? = some o →
    o.guard = none ∧ (∀ e ∈ o.after, Region.binds .any e = true → e.on < i) ∧ (∀ j d, keys[j]? = some d → d ∈ reads o → Rch ops.toList j i) ∧
    (∀ d, keys[i]? = some d → o.dst = some d ∧ fi.isVar d = false) ∧ (i = keys.length → ∀ j, j < keys.length → Rch ops.toList j i) := by
  unfold tabOk at h
  simp only [Bool.and_eq_true, decide_eq_true_eq] at h
  obtain ⟨⟨h1, h2⟩, h3⟩ := h
  refine ⟨by simpa using h1, h2, fun {i o} ho => ?_⟩
  have hlt : i < ops.size := (Array.getElem?_eq_some_iff.1 ho).1
  have h4 := List.all_eq_true.1 h3 i (by simpa using hlt)
  rw [show ops.toList[i]? = some o by simpa using ho] at h4
  simp only [Bool.and_eq_true] at h4
  obtain ⟨⟨⟨g1, g2⟩, g3⟩, g4⟩ := h4
  have rch : ∀ j, ((masks ops.toList []).getD i 0).testBit j = true → Rch ops.toList j i := fun j hj => masks_rch ops.toList [] (by simp) (fun i hi => by simp at hi) i hj
  refine ⟨by simpa using g1, fun e he hb => ?_, fun j d hj hd => ?_, fun d hd => ?_, fun hi j hj => ?_⟩
  · have := List.all_eq_true.1 g2 e (by simpa using he)
    simpa [hb] using this
  · have hjl := (List.getElem?_eq_some_iff.1 hj).1
    have := List.all_eq_true.1 g3 j (by simpa using hjl)
    rw [List.getD_eq_getElem?_getD, hj] at this
    simp only [Option.getD_some, Bool.or_eq_true, Bool.not_eq_true'] at this
    rcases this with h | h
    · have : (reads o).elem d = true := by simpa using hd
      rw [this] at h; cases h
    · exact rch j h
  · have hil := (List.getElem?_eq_some_iff.1 hd).1
    rw [if_pos hil, List.getD_eq_getElem?_getD, hd] at g4
    simpa using g4
  · rw [if_neg (by omega)] at g4
    exact rch j (List.all_eq_true.1 g4 j (by simpa using hj))
theorem repE_pure {P : Program} {w : World} {Pr : Addr → Prop} {bl : List (List Nat)} {tmps : Array Value} : ∀ {l : List (Nat × AC)}, (∀ x ∈ l, ∃ z, tmps[x.1]? = some z ∧ Rep P w Pr bl x.2 z []) → RepE P w Pr bl tmps l [] := by
  intro l; induction l with
  | nil => intro _; rfl
  | cons x l ih =>
    intro h
    obtain ⟨z, h1, h2⟩ := h x (by simp)
    exact ⟨[], [], z, h1, h2, ih fun y hy => h y (by simp [hy]), rfl⟩
theorem tab_any {T : List (Nat × AC)} {st0 : St} {k : St → Prop} (hck : tabOk C.fi (T.map (·.1)) ops.toList = true) (hp : T.all (fun x => pureV x.2) = true) (hd : ops.toList.all (opDst C.N) = true)
    (hk : ∀ st' a' w' Pr' b', k st' → SR C st' a' w' Pr' b' [] [] → Q .normal a' w') (h : wTab C.P C.fi T st0 k T ops.toList) :
    ∀ (fuel : Nat) (idx : List Nat) (listed : Array Bool) (a : Act) (w : World), listed.size = ops.size → Clo ops listed → (∀ i, i ∈ idx ↔ i < ops.size ∧ listed.getD i true = false) → idx.Pairwise (· < ·) → idx.length ≤ fuel →
      ((T.length ∈ idx ∧ (∃ Pr b, SR C { st0 with loc := [] } a w Pr b [] []) ∧ ∀ i x, T[i]? = some x → listed.getD i true = true → ∃ z, a.tmps[x.1]? = some z ∧ ∀ w Pr bl, Rep C.P w Pr bl x.2 z []) ∨ (idx = [] ∧ Q .normal a w)) →
      wpAny C.P .any ops Q fuel listed a w := by
  obtain ⟨hsize, hnd, hat⟩ := tabOk_at hck
  obtain ⟨hpre, ol, hol, hlast⟩ := wTab_at h
  rw [List.length_map] at hsize
  have nil : ∀ (idx : List Nat) (listed : Array Bool), listed.size = ops.size → (∀ i, i ∈ idx ↔ i < ops.size ∧ listed.getD i true = false) → idx.Pairwise (· < ·) → Region.ready .any ops listed = [] → idx = [] := by
    intro idx listed hsz hm hpw hr
    cases idx with
    | nil => rfl
    | cons i r =>
      exfalso
      obtain ⟨hi, hl⟩ := (hm i).1 List.mem_cons_self
      have ho : ops[i]? = some ops[i] := Array.getElem?_eq_getElem hi
      have : i ∈ Region.ready .any ops listed := by
        rw [mem_ready]
        refine ⟨hl, _, ho, fun e he hb => ?_⟩
        have hlt := (hat ho).2.1 e he hb
        have hn : e.on ∉ i :: r := by
          intro hmem
          rcases List.mem_cons.1 hmem with h1 | h1
          · omega
          · have := (List.pairwise_cons.1 hpw).1 _ h1; omega
        have h2 : ¬ (e.on < ops.size ∧ listed.getD e.on true = false) := fun h => hn ((hm _).2 h)
        have h3 : e.on < ops.size := by omega
        rw [getD_lt (by omega) false true]
        cases h4 : listed.getD e.on true with
        | true => rfl
        | false => exact absurd ⟨h3, h4⟩ h2
      rw [hr] at this
      cases this
  intro fuel
  induction fuel with
  | zero =>
    intro idx listed a w hsz hcl hm hpw hl hI
    obtain rfl : idx = [] := List.eq_nil_of_length_eq_zero (by omega)
    have hQ : Q .normal a w := by
      rcases hI with ⟨h1, _⟩ | ⟨_, h2⟩
      · cases h1
      · exact h2
    refine ⟨?_, hQ⟩
    cases hr : Region.ready .any ops listed with
    | nil => rfl
    | cons i r =>
      have hi : i ∈ Region.ready .any ops listed := by rw [hr]; exact List.mem_cons_self
      obtain ⟨h0, o, ho, _⟩ := mem_ready.1 hi
      have := (hm i).2 ⟨(Array.getElem?_eq_some_iff.1 ho).1, h0⟩
      cases this
  | succ fuel ih =>
    intro idx listed a w hsz hcl hm hpw hl hI
    refine ⟨fun hr => ?_, fun i hi => ?_⟩
    · obtain rfl := nil idx listed hsz hm hpw hr
      rcases hI with ⟨h1, _⟩ | ⟨_, h2⟩
      · cases h1
      · exact h2
    · obtain ⟨h0, o, ho, hprd⟩ := mem_ready.1 hi
      have hlt : i < ops.size := (Array.getElem?_eq_some_iff.1 ho).1
      have hmem := (hm i).2 ⟨hlt, h0⟩
      obtain ⟨hTl, ⟨Pr, b, hS⟩, hpure⟩ : T.length ∈ idx ∧ (∃ Pr b, SR C { st0 with loc := [] } a w Pr b [] []) ∧ ∀ i x, T[i]? = some x → listed.getD i true = true → ∃ z, a.tmps[x.1]? = some z ∧ ∀ w Pr bl, Rep C.P w Pr bl x.2 z [] := by
        rcases hI with h1 | ⟨rfl, _⟩
        · exact h1
        · cases hmem
      obtain ⟨hguard, hedge, hrd, hdst, hall⟩ := hat ho
      have hprd' : ∀ o', ops[i]? = some o' → ∀ e ∈ o'.after, Region.binds .any e = true → listed.getD e.on true = true := by
        intro o' ho' e he hb
        rw [ho] at ho'; cases ho'
        have h2 := hprd e he hb
        have h3 := hedge e he hb
        rwa [getD_lt (by omega) true false]
      have hdo : ∀ j, o.dst = some j → j < C.N := by
        intro j hj
        have := List.all_eq_true.1 hd o (by
          obtain ⟨h3, rfl⟩ := Array.getElem?_eq_some_iff.1 ho
          simp)
        simp only [opDst, hj, decide_eq_true_eq] at this
        exact this
      have hTS : SR C (tabSt T o st0) a w Pr b [] [] := by
        obtain ⟨Le, Ll, Lx, Lk, hl⟩ := hS
        have hll : Ll = [] := hl.loc
        subst hll
        refine ⟨Le, [], Lx, Lk, { env := hl.env, loc := repE_pure fun x hx => ?_, reg := hl.reg, K := hl.K, cnt := hl.cnt, new := hl.new, kE := hl.kE, kL := ⟨?_, fun d hd' => ?_⟩, prlt := hl.prlt, since := hl.since, defers := hl.defers, size := hl.size }⟩
        · obtain ⟨hxT, hxr⟩ := List.mem_filter.1 hx
          obtain ⟨j, hj⟩ := List.mem_iff_getElem?.1 hxT
          have hr := hrd j x.1 (by rw [List.getElem?_map, hj]; rfl) (by simpa using hxr)
          obtain ⟨z, h1, h2⟩ := hpure j x hj (rch_listed hcl hr hprd')
          exact ⟨z, h1, h2 _ _ _⟩
        · exact List.Nodup.sublist ((List.filter_sublist).map _) hnd
        · obtain ⟨x, hx, rfl⟩ := List.mem_map.1 hd'
          obtain ⟨j, hj⟩ := List.mem_iff_getElem?.1 (List.mem_filter.1 hx).1
          have hjT := (List.getElem?_eq_some_iff.1 hj).1
          have hoj : ops[j]? = some ops[j] := Array.getElem?_eq_getElem (by omega)
          exact ((hat hoj).2.2.2.1 x.1 (by rw [List.getElem?_map, hj]; rfl)).2
      obtain ⟨F1, F2, rfl⟩ := List.append_of_mem hmem
      have hp2 := List.pairwise_append.1 hpw
      have hsetc : Clo ops (listed.setIfInBounds i true) := fun i2 o2 ho2 hl2 e he hb => by
        by_cases e3 : e.on = i
        · rw [e3]
          have hlt2 : i < listed.size := by omega
          simp [Array.getD, hlt2]
        · rw [getD_set_ne true (fun h => e3 h.symm)]
          by_cases e4 : i2 = i
          · subst e4; exact hprd' o2 ho2 e he hb
          · rw [getD_set_ne true (fun h => e4 h.symm)] at hl2
            exact hcl i2 o2 ho2 hl2 e he hb
      have hsetm : ∀ j, j ∈ F1 ++ F2 ↔ j < ops.size ∧ (listed.setIfInBounds i true).getD j true = false := fun j => by
        by_cases e : j = i
        · subst e
          have hn : j ∉ F1 ++ F2 := by
            intro hm2
            rcases List.mem_append.1 hm2 with h3 | h3
            · have := hp2.2.2 j h3 j List.mem_cons_self; omega
            · have := (List.pairwise_cons.1 hp2.2.1).1 j h3; omega
          have hlt2 : j < listed.size := by omega
          have : (listed.setIfInBounds j true).getD j true = true := by simp [Array.getD, hlt2]
          rw [this]
          simp only [Bool.true_eq_false, and_false, iff_false]
          exact hn
        · rw [getD_set_ne true (fun h => e h.symm), ← hm j]
          simp [e]
      have hsetp : (F1 ++ F2).Pairwise (· < ·) := List.pairwise_append.2 ⟨hp2.1, (List.pairwise_cons.1 hp2.2.1).2, fun x hx y hy => hp2.2.2 x hx y (List.mem_cons_of_mem _ hy)⟩
      have hsetl : (F1 ++ F2).length ≤ fuel := by simp at hl ⊢; omega
      have hstep := ih (F1 ++ F2) (listed.setIfInBounds i true)
      unfold wpOp
      simp only [ho]
      rw [if_pos (by simp [Region.wanted, hguard])]
      by_cases hiT : i = T.length
      · subst hiT
        have hoe : ol = o := by
          have : ops[T.length]? = some ol := by simpa using hol
          rw [ho] at this; cases this; rfl
        subst hoe
        have hF : F1 ++ F2 = [] := by
          refine List.eq_nil_iff_forall_not_mem.2 fun j hj => ?_
          obtain ⟨g1, g2⟩ := (hsetm j).1 hj
          by_cases e : j = T.length
          · subst e
            have hlt2 : T.length < listed.size := by omega
            simp [Array.getD, hlt2] at g2
          · rw [getD_set_ne true (fun h => e h.symm)] at g2
            have hr := rch_listed hcl (hall (by rw [List.length_map]) j (by rw [List.length_map]; omega)) hprd'
            rw [hr] at g2; cases g2
        refine .inl (wDo_sound hTS (by simp [gOk]) hlast ?_)
        intro av st' v w' Pr' b' hk' hS' _
        exact hstep _ _ (by simpa using hsz) hsetc hsetm hsetp hsetl (.inr ⟨hF, hk _ _ _ _ _ hk' (hS'.put ol.dst hdo)⟩)
      · have hil : i < T.length := by omega
        obtain ⟨x, hx⟩ : ∃ x, T[i]? = some x := ⟨_, List.getElem?_eq_getElem hil⟩
        obtain ⟨o', ho', hw⟩ := hpre i x hx
        have hoe : o' = o := by
          have : ops[i]? = some o' := by simpa using ho'
          rw [ho] at this; cases this; rfl
        subst hoe
        obtain ⟨hdx, hvx⟩ := hdst x.1 (by rw [List.getElem?_map, hx]; rfl)
        have hpx : pureV x.2 = true := List.all_eq_true.1 hp x (List.mem_of_getElem? hx)
        have hxN := hdo x.1 hdx
        refine .inl (wDo_sound hTS (by simp [gOk]) hw ?_)
        intro av st' v w' Pr' b' hk' hS' _
        obtain ⟨rfl, he, hK⟩ := hk'
        have hrv : ∀ w Pr bl, Rep C.P w Pr bl x.2 v [] := by
          obtain ⟨Le, Ll, Lx, Lk, hh⟩ := hS'
          have hreg := hh.reg
          cases hreg with
          | cons h1 h2 => exact h1.pure hpx
        have hsz2 : a.tmps.size = C.N := by
          obtain ⟨Le, Ll, Lx, Lk, hh⟩ := hS
          exact hh.size
        have hput := (hS'.put o'.dst hdo).dropLoc
        rw [hdx] at hput ⊢
        have hst : { st'.put C.fi (some x.1) x.2 with loc := [] } = { st0 with loc := [] } := by
          simp only [St.put, hvx, Bool.false_eq_true, if_false]
          rw [he, hK]
        rw [hst] at hput
        refine hstep _ _ (by simpa using hsz) hsetc hsetm hsetp hsetl (.inl ⟨?_, ⟨_, _, hput⟩, fun j y hy hlj => ?_⟩)
        · rcases List.mem_append.1 hTl with h3 | h3
          · exact List.mem_append_left _ h3
          · rcases List.mem_cons.1 h3 with h4 | h4
            · exact absurd h4.symm hiT
            · exact List.mem_append_right _ h4
        · by_cases e : j = i
          · subst e
            rw [hx] at hy; cases hy
            exact ⟨v, by simp [Act.put, hsz2, hxN], hrv⟩
          · rw [getD_set_ne true (fun h => e h.symm)] at hlj
            obtain ⟨z, g1, g2⟩ := hpure j y hy hlj
            refine ⟨z, ?_, g2⟩
            have hne : x.1 ≠ y.1 := fun h => by
              have h1 : (T.map (·.1))[i]? = some x.1 := by rw [List.getElem?_map, hx]; rfl
              have h2 : (T.map (·.1))[j]? = some x.1 := by rw [List.getElem?_map, hy, h]; rfl
              exact e ((List.getElem?_inj (by rw [List.length_map]; have := (List.getElem?_eq_some_iff.1 hy).1; omega) hnd).1 (h2.trans h1.symm))
            simp only [Act.put]
            rw [Array.getElem?_setIfInBounds_ne hne]
            exact g1
theorem SR.drawnT {st : St} {a : Act} {w : World} {Pr : Addr → Prop} {b : List Nat} {xs : List AC} {vs : List Value} (h : SR C st a w Pr b xs vs) (n : Nat) : SR C st a { w with drawn := n } Pr b xs vs := by
  obtain ⟨Le, Ll, Lx, Lk, h⟩ := h
  have hp : ∀ p, Pr p → Pr p ∧ World.cell? { w with drawn := n } p = w.cell? p := fun p hp => ⟨hp, rfl⟩
  have hk : ∀ g, Kept w Pr { w with drawn := n } Pr g := fun g => ⟨rfl, fun a h _ => h⟩
  exact ⟨Le, Ll, Lx, Lk, ⟨h.env.kept hp fun g _ => hk g, h.loc.kept hp fun g _ => hk g, h.reg.kept hp fun g _ => hk g, h.K.kept hp (fun g _ => hk g) fun g _ => hk g, h.cnt, h.new, h.kE, h.kL, h.prlt,
    ⟨h.since.os, h.since.tape, h.since.output, h.since.size, h.since.block, h.since.prot, h.since.newPr⟩, h.defers, h.size⟩⟩
theorem draw_tab {id : Nat} {T : List (Nat × AC)} (hm : C.P.follows .mixedOrders = true) (hck : tabOk C.fi (T.map (·.1)) ops.toList = true) (hp : T.all (fun x => pureV x.2) = true) (hd : ops.toList.all (opDst C.N) = true) {k : St → Prop}
    (hk : ∀ st' a' w' Pr' b', k st' → SR C st' a' w' Pr' b' [] [] → Q .normal a' w') {st : St} {a : Act} {w : World} {Pr : Addr → Prop} {b : List Nat}
    (h : wTab C.P C.fi T st k T ops.toList) (hS : SR C st a w Pr b [] []) : (Code.region id ops true).wp C.P Q a w := by
  refine wp_region_any hm ?_
  have hsz := (tabOk_at hck).1
  rw [List.length_map] at hsz
  refine tab_any hck hp hd hk h ops.size (List.range ops.size) _ a _ (by simp) (fun i o ho hl => by
    have := (Array.getElem?_eq_some_iff.1 ho).1
    simp [Array.getD, this] at hl) (fun i => by
    simp [Array.getD]) List.pairwise_lt_range (by simp) (.inl ⟨by rw [List.mem_range]; omega, ⟨_, _, (hS.drawnT _).dropLoc⟩, fun i x hx hl => ?_⟩)
  have := (List.getElem?_eq_some_iff.1 hx).1
  have h2 : i < ops.size := by omega
  simp [Array.getD, h2] at hl
theorem kdE_congr : ∀ {E : List Ent} {D D' : Nat → Bool} {i : Nat} {K : List (List (List AC))}, (∀ j, i ≤ j → j < i + E.length → D j = D' j) → kdE E D i K = kdE E D' i K := by
  intro E; induction E with
  | nil => intro D D' i K _; rfl
  | cons e l ih =>
    intro D D' i K h
    have h1 : ∀ j, i + 1 ≤ j → j < i + 1 + l.length → D j = D' j := fun j a b => h j (by omega) (by rw [List.length_cons]; omega)
    cases e with
    | val d v => rw [kdE, kdE]; exact ih h1
    | eff g => rw [kdE, kdE, h i (Nat.le_refl _) (by rw [List.length_cons]; omega)]; exact ih h1
theorem keysE_len : ∀ E : List Ent, (keysE E).length = E.length := by
  intro E; induction E with
  | nil => rfl
  | cons e l ih => cases e <;> simp [keysE, ih]
theorem keysE_get : ∀ {E : List Ent} {i : Nat} {e : Ent}, E[i]? = some e → (keysE E)[i]? = some (match e with
    | .val d _ => some d
    | .eff _ => none) := by
  intro E; induction E with
  | nil => intro i e h; simp at h
  | cons x l ih =>
    intro i e h
    cases i with
    | zero => simp at h; subst h; cases x <;> rfl
    | succ i =>
      rw [List.getElem?_cons_succ] at h
      cases x <;> simpa [keysE] using ih h
theorem valsE_keys : ∀ E : List Ent, (valsE E).map (·.1) = (keysE E).filterMap id := by
  intro E; induction E with
  | nil => rfl
  | cons x l ih => cases x <;> simp [valsE, keysE, ih]
theorem valsE_mem : ∀ {E : List Ent} {x : Nat × AC}, x ∈ valsE E → ∃ j : Nat, E[j]? = some (.val x.1 x.2) := by
  intro E; induction E with
  | nil => intro x h; cases h
  | cons e l ih =>
    intro x h
    cases e with
    | val d v =>
      rcases List.mem_cons.1 h with rfl | h
      · exact ⟨0, rfl⟩
      · obtain ⟨j, hj⟩ := ih h; exact ⟨j + 1, by simpa using hj⟩
    | eff g => obtain ⟨j, hj⟩ := ih h; exact ⟨j + 1, by simpa using hj⟩
theorem valsE_of : ∀ {E : List Ent} {j d : Nat} {v : AC}, E[j]? = some (.val d v) → (d, v) ∈ valsE E := by
  intro E; induction E with
  | nil => intro j d v h; simp at h
  | cons e l ih =>
    intro j d v h
    cases j with
    | zero => simp at h; subst h; simp [valsE]
    | succ j =>
      rw [List.getElem?_cons_succ] at h
      cases e with
      | val d' v' => exact List.mem_cons_of_mem _ (ih h)
      | eff g => exact ih h
/-- A slot's value is told once. -/
theorem keysE_inj : ∀ {l : List (Option Nat)} {i j d : Nat}, (l.filterMap id).Nodup → l[i]? = some (some d) → l[j]? = some (some d) → i = j := by
  intro l; induction l with
  | nil => intro i j d _ h; simp at h
  | cons x l ih =>
    intro i j d hn hi hj
    have hn2 : (l.filterMap id).Nodup := by
      cases x with
      | none => simpa using hn
      | some y => simp at hn; exact hn.2
    have hmem : ∀ {k : Nat}, l[k]? = some (some d) → d ∈ l.filterMap id := fun h => List.mem_filterMap.2 ⟨some d, List.mem_of_getElem? h, rfl⟩
    cases i with
    | zero =>
      cases j with
      | zero => rfl
      | succ j =>
        simp at hi; subst hi
        rw [List.getElem?_cons_succ] at hj
        exact absurd (hmem hj) (by simp only [List.filterMap_cons, id] at hn; exact (List.nodup_cons.1 hn).1)
    | succ i =>
      rw [List.getElem?_cons_succ] at hi
      cases j with
      | zero =>
        simp at hj; subst hj
        exact absurd (hmem hi) (by simp only [List.filterMap_cons, id] at hn; exact (List.nodup_cons.1 hn).1)
      | succ j =>
        rw [List.getElem?_cons_succ] at hj
        rw [ih hn2 hi hj]
theorem wTab2_at {P : Program} {fi : FI} {E : List Ent} {st : St} {k : St → Prop} : ∀ {l : List Ent} {os : List Oper} {n : Nat}, wTab2 P fi E st k n l os →
    (∀ (i : Nat) (e : Ent), l[i]? = some e → ∃ o, os[i]? = some o ∧ ∀ D : Nat → Bool, D (n + i) = false → wDo P fi true none o.dst o.op { tabSt (valsE E) o st with K := kdE E D 0 st.K } (fun u s => (match e with
      | .val _ v => u = v
      | .eff _ => True) ∧ s.env = st.env ∧ s.K = kdE E (fun j => j == n + i || D j) 0 st.K)) ∧ k { st with loc := valsE E, K := kdE E (fun _ => true) 0 st.K } := by
  intro l; induction l with
  | nil =>
    intro os n h
    cases os with
    | nil => rw [wTab2.eq_1] at h; exact ⟨fun i e he => by simp at he, h⟩
    | cons o os => exact False.elim h
  | cons e l ih =>
    intro os n h
    cases os with
    | nil => exact False.elim h
    | cons o os =>
      rw [wTab2.eq_2] at h
      obtain ⟨h1, h2⟩ := h
      obtain ⟨g1, g2⟩ := ih h2
      refine ⟨fun i x hx => ?_, g2⟩
      cases i with
      | zero =>
        rw [List.getElem?_cons_zero] at hx
        cases hx
        exact ⟨o, rfl, h1⟩
      | succ i =>
        rw [List.getElem?_cons_succ] at hx
        obtain ⟨o2, e1, e2⟩ := g1 i x hx
        rw [show n + (i + 1) = n + 1 + i by omega]
        exact ⟨o2, e1, e2⟩
theorem tabOk2_at {fi : FI} {keys : List (Option Nat)} (h : tabOk2 fi keys ops.toList = true) : ops.size = keys.length ∧ (keys.filterMap id).Nodup ∧ ∀ {i : Nat} {o : Oper}, ops[i]? = some o →
    o.guard = none ∧ (∀ e ∈ o.after, Region.binds .any e = true → e.on < i) ∧ (∀ j d, keys[j]? = some (some d) → d ∈ reads o → Rch ops.toList j i) ∧
    (∀ d, keys[i]? = some d → o.dst = d) ∧ (∀ d, keys[i]? = some (some d) → fi.isVar d = false) := by
  unfold tabOk2 at h
  simp only [Bool.and_eq_true, decide_eq_true_eq] at h
  obtain ⟨⟨h1, h2⟩, h3⟩ := h
  refine ⟨by simpa using h1, h2, fun {i o} ho => ?_⟩
  have hlt : i < ops.size := (Array.getElem?_eq_some_iff.1 ho).1
  have h4 := List.all_eq_true.1 h3 i (by simpa using hlt)
  rw [show ops.toList[i]? = some o by simpa using ho] at h4
  simp only [Bool.and_eq_true] at h4
  obtain ⟨⟨⟨⟨g1, g2⟩, g3⟩, g4⟩, g5⟩ := h4
  refine ⟨by simpa using g1, fun e he hb => ?_, fun j d hj hd => ?_, fun d hd => ?_, fun d hd => ?_⟩
  · have := List.all_eq_true.1 g2 e (by simpa using he)
    simpa [hb] using this
  · have hjl := (List.getElem?_eq_some_iff.1 hj).1
    have := List.all_eq_true.1 g3 j (by simpa using hjl)
    rw [List.getD_eq_getElem?_getD, hj] at this
    simp only [Option.getD_some, Bool.or_eq_true, Bool.not_eq_true'] at this
    rcases this with h | h
    · have : (reads o).elem d = true := by simpa using hd
      rw [this] at h; cases h
    · exact masks_rch ops.toList [] (by simp) (fun i hi => by simp at hi) i h
  · rw [List.getD_eq_getElem?_getD, hd] at g4
    simpa using g4
  · rw [List.getD_eq_getElem?_getD, hd] at g5
    simpa using g5
theorem tab_any2 {E : List Ent} {st0 : St} {k : St → Prop} (hck : tabOk2 C.fi (keysE E) ops.toList = true) (hp : (valsE E).all (fun x => pureP st0.env x.2) = true) (hd : ops.toList.all (opDst C.N) = true)
    (hk : ∀ st' a' w' Pr' b', k st' → SR C st' a' w' Pr' b' [] [] → Q .normal a' w') (h : wTab2 C.P C.fi E st0 k 0 E ops.toList) :
    ∀ (fuel : Nat) (idx : List Nat) (listed : Array Bool) (a : Act) (w : World), listed.size = ops.size → Clo ops listed → (∀ i, i ∈ idx ↔ i < ops.size ∧ listed.getD i true = false) → idx.Pairwise (· < ·) → idx.length ≤ fuel →
      (∃ Pr b, SR C { st0 with loc := [], K := kdE E (fun j => listed.getD j true) 0 st0.K } a w Pr b [] [] ∧ ∀ i d v, E[i]? = some (.val d v) → listed.getD i true = true → ∃ z, a.tmps[d]? = some z ∧ Rep C.P w Pr (b :: C.bl0) v z []) →
      wpAny C.P .any ops Q fuel listed a w := by
  obtain ⟨hsize, hnd, hat⟩ := tabOk2_at hck
  obtain ⟨hpre, hlast⟩ := wTab2_at h
  rw [keysE_len] at hsize
  have fin : ∀ (listed : Array Bool) (a : Act) (w : World), (∀ i, i < ops.size → listed.getD i true = true) → (∃ Pr b, SR C { st0 with loc := [], K := kdE E (fun j => listed.getD j true) 0 st0.K } a w Pr b [] [] ∧
      ∀ i d v, E[i]? = some (.val d v) → listed.getD i true = true → ∃ z, a.tmps[d]? = some z ∧ Rep C.P w Pr (b :: C.bl0) v z []) → Q .normal a w := by
    intro listed a w hall ⟨Pr, b, hS, hpure⟩
    have hKe : kdE E (fun j => listed.getD j true) 0 st0.K = kdE E (fun _ => true) 0 st0.K := kdE_congr fun j _ hj => hall j (by omega)
    rw [hKe] at hS
    refine hk _ _ _ Pr b hlast ?_
    obtain ⟨Le, Ll, Lx, Lk, hl⟩ := hS
    have hll : Ll = [] := hl.loc
    subst hll
    refine ⟨Le, [], Lx, Lk, { env := hl.env, loc := repE_pure fun x hx => ?_, reg := hl.reg, K := hl.K, cnt := hl.cnt, new := hl.new, kE := hl.kE, kL := ⟨?_, fun d hd' => ?_⟩, prlt := hl.prlt, since := hl.since, defers := hl.defers, size := hl.size }⟩
    · obtain ⟨j, hj⟩ := valsE_mem hx
      have hjl := (List.getElem?_eq_some_iff.1 hj).1
      obtain ⟨z, h1, h2⟩ := hpure j x.1 x.2 hj (hall j (by omega))
      exact ⟨z, h1, h2⟩
    · rw [valsE_keys]; exact hnd
    · obtain ⟨x, hx, rfl⟩ := List.mem_map.1 hd'
      obtain ⟨j, hj⟩ := valsE_mem hx
      have hjT := (List.getElem?_eq_some_iff.1 hj).1
      have hoj : ops[j]? = some ops[j] := Array.getElem?_eq_getElem (by omega)
      exact (hat hoj).2.2.2.2 x.1 (by rw [keysE_get hj])
  have nil : ∀ (idx : List Nat) (listed : Array Bool), listed.size = ops.size → (∀ i, i ∈ idx ↔ i < ops.size ∧ listed.getD i true = false) → idx.Pairwise (· < ·) → Region.ready .any ops listed = [] → idx = [] := by
    intro idx listed hsz hm hpw hr
    cases idx with
    | nil => rfl
    | cons i r =>
      exfalso
      obtain ⟨hi, hl⟩ := (hm i).1 List.mem_cons_self
      have ho : ops[i]? = some ops[i] := Array.getElem?_eq_getElem hi
      have : i ∈ Region.ready .any ops listed := by
        rw [mem_ready]
        refine ⟨hl, _, ho, fun e he hb => ?_⟩
        have hlt := (hat ho).2.1 e he hb
        have hn : e.on ∉ i :: r := by
          intro hmem
          rcases List.mem_cons.1 hmem with h1 | h1
          · omega
          · have := (List.pairwise_cons.1 hpw).1 _ h1; omega
        have h2 : ¬ (e.on < ops.size ∧ listed.getD e.on true = false) := fun h => hn ((hm _).2 h)
        have h3 : e.on < ops.size := by omega
        rw [getD_lt (by omega) false true]
        cases h4 : listed.getD e.on true with
        | true => rfl
        | false => exact absurd ⟨h3, h4⟩ h2
      rw [hr] at this
      cases this
  have alls : ∀ (listed : Array Bool), (∀ i, i ∈ ([] : List Nat) ↔ i < ops.size ∧ listed.getD i true = false) → ∀ i, i < ops.size → listed.getD i true = true := by
    intro listed hm i hi
    cases h : listed.getD i true with
    | true => rfl
    | false => exact absurd ((hm i).2 ⟨hi, h⟩) (by simp)
  intro fuel
  induction fuel with
  | zero =>
    intro idx listed a w hsz hcl hm hpw hl hS
    obtain rfl : idx = [] := List.eq_nil_of_length_eq_zero (by omega)
    refine ⟨?_, fin listed a w (alls listed hm) hS⟩
    cases hr : Region.ready .any ops listed with
    | nil => rfl
    | cons i r =>
      have hi : i ∈ Region.ready .any ops listed := by rw [hr]; exact List.mem_cons_self
      obtain ⟨h0, o, ho, _⟩ := mem_ready.1 hi
      have := (hm i).2 ⟨(Array.getElem?_eq_some_iff.1 ho).1, h0⟩
      cases this
  | succ fuel ih =>
    intro idx listed a w hsz hcl hm hpw hl hS
    refine ⟨fun hr => ?_, fun i hi => ?_⟩
    · obtain rfl := nil idx listed hsz hm hpw hr
      exact fin listed a w (alls listed hm) hS
    · obtain ⟨h0, o, ho, hprd⟩ := mem_ready.1 hi
      have hlt : i < ops.size := (Array.getElem?_eq_some_iff.1 ho).1
      have hmem := (hm i).2 ⟨hlt, h0⟩
      obtain ⟨Pr, b, hS, hpure⟩ := hS
      obtain ⟨hguard, hedge, hrd, hdst, hvar⟩ := hat ho
      have hprd' : ∀ o', ops[i]? = some o' → ∀ e ∈ o'.after, Region.binds .any e = true → listed.getD e.on true = true := by
        intro o' ho' e he hb
        rw [ho] at ho'; cases ho'
        have h2 := hprd e he hb
        have h3 := hedge e he hb
        rwa [getD_lt (by omega) true false]
      have hdo : ∀ j, o.dst = some j → j < C.N := by
        intro j hj
        have := List.all_eq_true.1 hd o (by
          obtain ⟨h3, rfl⟩ := Array.getElem?_eq_some_iff.1 ho
          simp)
        simp only [opDst, hj, decide_eq_true_eq] at this
        exact this
      obtain ⟨ent, hent⟩ : ∃ e, E[i]? = some e := ⟨_, List.getElem?_eq_getElem (by omega)⟩
      have hTS : SR C { tabSt (valsE E) o st0 with K := kdE E (fun j => listed.getD j true) 0 st0.K } a w Pr b [] [] := by
        obtain ⟨Le, Ll, Lx, Lk, hl⟩ := hS
        have hll : Ll = [] := hl.loc
        subst hll
        refine ⟨Le, [], Lx, Lk, { env := hl.env, loc := repE_pure fun x hx => ?_, reg := hl.reg, K := hl.K, cnt := hl.cnt, new := hl.new, kE := hl.kE, kL := ⟨?_, fun d hd' => ?_⟩, prlt := hl.prlt, since := hl.since, defers := hl.defers, size := hl.size }⟩
        · obtain ⟨hxT, hxr⟩ := List.mem_filter.1 hx
          obtain ⟨j, hj⟩ := valsE_mem hxT
          have hr := hrd j x.1 (by rw [keysE_get hj]) (by simpa using hxr)
          obtain ⟨z, h1, h2⟩ := hpure j x.1 x.2 hj (rch_listed hcl hr hprd')
          exact ⟨z, h1, h2⟩
        · refine List.Nodup.sublist ((List.filter_sublist).map _) ?_
          rw [valsE_keys]; exact hnd
        · obtain ⟨x, hx, rfl⟩ := List.mem_map.1 hd'
          obtain ⟨j, hj⟩ := valsE_mem (List.mem_filter.1 hx).1
          have hjT := (List.getElem?_eq_some_iff.1 hj).1
          have hoj : ops[j]? = some ops[j] := Array.getElem?_eq_getElem (by omega)
          exact (hat hoj).2.2.2.2 x.1 (by rw [keysE_get hj])
      obtain ⟨F1, F2, rfl⟩ := List.append_of_mem hmem
      have hp2 := List.pairwise_append.1 hpw
      have hsetc : Clo ops (listed.setIfInBounds i true) := fun i2 o2 ho2 hl2 e he hb => by
        by_cases e3 : e.on = i
        · rw [e3]
          have hlt2 : i < listed.size := by omega
          simp [Array.getD, hlt2]
        · rw [getD_set_ne true (fun h => e3 h.symm)]
          by_cases e4 : i2 = i
          · subst e4; exact hprd' o2 ho2 e he hb
          · rw [getD_set_ne true (fun h => e4 h.symm)] at hl2
            exact hcl i2 o2 ho2 hl2 e he hb
      have hsetm : ∀ j, j ∈ F1 ++ F2 ↔ j < ops.size ∧ (listed.setIfInBounds i true).getD j true = false := fun j => by
        by_cases e : j = i
        · subst e
          have hn : j ∉ F1 ++ F2 := by
            intro hm2
            rcases List.mem_append.1 hm2 with h3 | h3
            · have := hp2.2.2 j h3 j List.mem_cons_self; omega
            · have := (List.pairwise_cons.1 hp2.2.1).1 j h3; omega
          have hlt2 : j < listed.size := by omega
          have : (listed.setIfInBounds j true).getD j true = true := by simp [Array.getD, hlt2]
          rw [this]
          simp only [Bool.true_eq_false, and_false, iff_false]
          exact hn
        · rw [getD_set_ne true (fun h => e h.symm), ← hm j]
          simp [e]
      have hsetp : (F1 ++ F2).Pairwise (· < ·) := List.pairwise_append.2 ⟨hp2.1, (List.pairwise_cons.1 hp2.2.1).2, fun x hx y hy => hp2.2.2 x hx y (List.mem_cons_of_mem _ hy)⟩
      have hsetl : (F1 ++ F2).length ≤ fuel := by simp at hl ⊢; omega
      have hsetD : (fun j => (listed.setIfInBounds i true).getD j true) = fun j => j == i || listed.getD j true := by
        funext j
        by_cases e : j = i
        · subst e
          have hlt2 : j < listed.size := by omega
          simp [Array.getD, hlt2]
        · rw [getD_set_ne true (fun h => e h.symm), beq_eq_false_iff_ne.2 e, Bool.false_or]
      unfold wpOp
      simp only [ho]
      rw [if_pos (by simp [Region.wanted, hguard])]
      obtain ⟨o', ho', hw⟩ := hpre i ent hent
      have hoe : o' = o := by
        have : ops[i]? = some o' := by simpa using ho'
        rw [ho] at this; cases this; rfl
      subst hoe
      have hw := hw (fun j => listed.getD j true) (by rw [Nat.zero_add]; exact h0)
      rw [Nat.zero_add] at hw
      refine .inl (wDo_sound hTS (by simp [gOk]) hw ?_)
      intro av st' v w' Pr' b' hk' hS' _
      obtain ⟨hav, he, hK⟩ := hk'
      have hsz2 : a.tmps.size = C.N := by
        obtain ⟨Le, Ll, Lx, Lk, hh⟩ := hS
        exact hh.size
      have hkey := keysE_get hent
      have hdx := hdst _ hkey
      have hput := (hS'.put o'.dst hdo).dropLoc
      have hst : { st'.put C.fi o'.dst av with loc := [] } = { st0 with loc := [], K := kdE E (fun j => (listed.setIfInBounds i true).getD j true) 0 st0.K } := by
        rw [hsetD]
        cases ent with
        | val d u =>
          have hdx : o'.dst = some d := hdx
          rw [hdx]
          have hv := hvar d hkey
          simp only [St.put, hv, Bool.false_eq_true, if_false]
          rw [he, hK]
        | eff g =>
          have hdx : o'.dst = none := hdx
          rw [hdx]
          simp only [St.put]
          rw [he, hK]
      rw [hst] at hput
      have hne : ∀ y ∈ st0.env, (a.put o'.dst v).tmps[y.1]? = a.tmps[y.1]? := fun y hy => by
        cases ent with
        | val d u =>
          have hdx : o'.dst = some d := hdx
          rw [hdx]
          simp only [Act.put]
          refine Array.getElem?_setIfInBounds_ne fun hdy => ?_
          have hv := hvar d hkey
          obtain ⟨Le, Ll, Lx, Lk, hh⟩ := hS
          have := hh.kE.2 y.1 (List.mem_map.2 ⟨y, hy, rfl⟩)
          rw [← hdy, hv] at this
          cases this
        | eff g =>
          have hdx : o'.dst = none := hdx
          rw [hdx]; rfl
      have hput2 := hput
      obtain ⟨Le1, Ll1, Lx1, Lk1, hh1⟩ := hS
      obtain ⟨Le2, Ll2, Lx2, Lk2, hh2⟩ := hput
      refine ih (F1 ++ F2) (listed.setIfInBounds i true) _ _ (by simpa using hsz) hsetc hsetm hsetp hsetl ⟨_, _, hput2, fun j d u hj hlj => ?_⟩
      by_cases e : j = i
      · subst e
        rw [hent] at hj; cases hj
        have hdx : o'.dst = some d := hdx
        have hpx : pureP st0.env u = true := List.all_eq_true.1 hp (d, u) (valsE_of hent)
        have hav : av = u := hav
        subst hav
        have hxN := hdo d hdx
        obtain ⟨Le3, Ll3, Lx3, Lk3, hh3⟩ := hS'
        have hreg := hh3.reg
        have hE3 := hh3.env
        rw [he] at hE3
        cases hreg with
        | cons h1 h2 =>
          rw [hdx]
          refine ⟨v, by simp [Act.put, hsz2, hxN], ?_⟩
          exact h1.pureP hpx hE3 hE3 (fun _ _ => rfl)
      · rw [getD_set_ne true (fun h => e h.symm)] at hlj
        obtain ⟨z, g1, g2⟩ := hpure j d u hj hlj
        have hpx : pureP st0.env u = true := List.all_eq_true.1 hp (d, u) (valsE_of hj)
        refine ⟨z, ?_, g2.pureP hpx hh1.env hh2.env hne⟩
        have hkj := keysE_get hj
        cases ent with
        | val d' u' =>
          have hdx : o'.dst = some d' := hdx
          rw [hdx]
          have hne : d' ≠ d := fun h => by
            subst h
            exact e (keysE_inj hnd hkj hkey)
          simp only [Act.put]
          rw [Array.getElem?_setIfInBounds_ne hne]
          exact g1
        | eff g =>
          have hdx : o'.dst = none := hdx
          rw [hdx]
          exact g1
theorem draw_tab2 {id : Nat} {E : List Ent} {st : St} (hm : C.P.follows .mixedOrders = true) (hck : tabOk2 C.fi (keysE E) ops.toList = true) (hp : (valsE E).all (fun x => pureP st.env x.2) = true) (hd : ops.toList.all (opDst C.N) = true) {k : St → Prop}
    (hk : ∀ st' a' w' Pr' b', k st' → SR C st' a' w' Pr' b' [] [] → Q .normal a' w') {a : Act} {w : World} {Pr : Addr → Prop} {b : List Nat}
    (h : wTab2 C.P C.fi E st k 0 E ops.toList) (hS : SR C st a w Pr b [] []) : (Code.region id ops true).wp C.P Q a w := by
  refine wp_region_any hm ?_
  have hsz := (tabOk2_at hck).1
  rw [keysE_len] at hsz
  have hK0 : kdE E (fun j => (Array.replicate ops.size false).getD j true) 0 st.K = kdE E (fun _ => false) 0 st.K := kdE_congr fun j _ hj => by
    have h2 : j < ops.size := by omega
    simp [Array.getD, h2]
  have hK1 : ∀ (E : List Ent) (i : Nat) (K : List (List (List AC))), kdE E (fun _ => false) i K = K := by
    intro E; induction E with
    | nil => intro i K; rfl
    | cons e l ih => intro i K; cases e with
      | val d v => rw [kdE]; exact ih _ _
      | eff g => rw [kdE, if_neg (by simp)]; exact ih _ _
  refine tab_any2 hck hp hd hk h ops.size (List.range ops.size) _ a _ (by simp) (fun i o ho hl => by
    have := (Array.getElem?_eq_some_iff.1 ho).1
    simp [Array.getD, this] at hl) (fun i => by
    simp [Array.getD]) List.pairwise_lt_range (by simp) ⟨_, _, by rw [hK0, hK1]; exact (hS.drawnT _).dropLoc, fun i d v hx hl => ?_⟩
  have := (List.getElem?_eq_some_iff.1 hx).1
  have h2 : i < ops.size := by omega
  simp [Array.getD, h2] at hl
end
end Go.Proofs.YtkefgpmnimpcdaaGreatDoor.Abs
