/- A function that hands back a pointer to a box of its own. No condition. -/
import Derived.Test.YtkefgpmnimpcdaaGreatDoorAbsT
set_option linter.unusedVariables false
set_option linter.unusedSimpArgs false
namespace Go.Proofs.YtkefgpmnimpcdaaGreatDoor.Abs
open Go
def plainA : AC → Bool
  | .sl .nil _ _ => true
  | .sl .no _ _ => true
  | .bool _ => true
  | .int _ _ => true
  | .str _ => true
  | _ => false
theorem Rep.plain {P : Program} {w : World} {Pr : Addr → Prop} {bl : List (List Nat)} {c : AC} {v : Value} {L : List Nat} (h : Rep P w Pr bl c v L) (hp : plainA c = true) : L = [] ∧ ∀ bl', Rep P w Pr bl' c v [] := by
  cases h with
  | bool => exact ⟨rfl, fun _ => .bool⟩
  | int => exact ⟨rfl, fun _ => .int⟩
  | str h1 h2 => exact ⟨rfl, fun _ => .str h1 h2⟩
  | slNo h1 h2 h3 h4 h5 => exact ⟨rfl, fun _ => .slNo h1 h2 h3 h4 h5⟩
  | slNil => exact ⟨rfl, fun _ => .slNil⟩
  | _ => simp [plainA] at hp
theorem Reps.plain {P : Program} {w : World} {Pr : Addr → Prop} {bl : List (List Nat)} : ∀ {cs : List AC} {vs : List Value} {L : List Nat}, Reps P w Pr bl cs vs L → cs.all plainA = true → L = [] ∧ ∀ bl', Reps P w Pr bl' cs vs [] := by
  intro cs; induction cs with
  | nil => intro vs L h _; cases h; exact ⟨rfl, fun _ => .nil⟩
  | cons c cs ih =>
    intro vs L h hp
    simp only [List.all_cons, Bool.and_eq_true] at hp
    cases h with
    | cons h1 h2 =>
      obtain ⟨rfl, g1⟩ := h1.plain hp.1
      obtain ⟨rfl, g2⟩ := ih h2 hp.2
      exact ⟨rfl, fun bl' => Reps.cons (L := []) (M := []) (g1 bl') (g2 bl')⟩
theorem RepF.plain {P : Program} {w : World} {Pr : Addr → Prop} {bl : List (List Nat)} : ∀ {f : List (List AC)} {gs L : List Nat}, RepF P w Pr bl f gs L → f.all (fun c => c.all plainA) = true → L = [] := by
  intro f; induction f with
  | nil => intro gs L h _; exact h.2
  | cons c f ih =>
    intro gs L h hp
    simp only [List.all_cons, Bool.and_eq_true] at hp
    obtain ⟨g, gs', cur, T, L1, L2, rfl, h1, h2, h3, h4, h5, rfl⟩ := h
    rw [(h2.plain hp.1).1, ih h5 hp.2]; rfl
theorem RepK.plain {P : Program} {w : World} {Pr : Addr → Prop} : ∀ {K : List (List (List AC))} {bl : List (List Nat)} {L : List Nat}, RepK P w Pr K bl L → K.all (fun f => f.all (fun c => c.all plainA)) = true → L = [] := by
  intro K; induction K with
  | nil => intro bl L h _; exact h.2
  | cons f K ih =>
    intro bl L h hp
    simp only [List.all_cons, Bool.and_eq_true] at hp
    obtain ⟨b, bl', L1, L2, rfl, h1, h2, rfl⟩ := h
    rw [h1.plain hp.1, ih h2 hp.2]; rfl
theorem RepF.last {P : Program} {w : World} {Pr : Addr → Prop} {bl : List (List Nat)} {c : List AC} : ∀ {pre : List (List AC)} {gs L : List Nat}, RepF P w Pr bl (pre ++ [c]) gs L →
    ∃ gs1 g cur T L1 L2, gs = gs1 ++ [g] ∧ gs1.length = pre.length ∧ w.heap[g]? = some (.cells cur T (0, 0)) ∧ Reps P w Pr bl c cur.toList L2 ∧ (∀ v ∈ cur.toList, v.oneCell' = true) ∧ (∀ a, Pr a → a.block ≠ g) ∧ L = L1 ++ L2 := by
  intro pre; induction pre with
  | nil =>
    intro gs L h
    obtain ⟨g, gs', cur, T, L1, L2, rfl, h1, h2, h3, h4, ⟨rfl, rfl⟩, rfl⟩ := h
    exact ⟨[], g, cur, T, [], L1, rfl, rfl, h1, h2, h3, h4, by simp⟩
  | cons d pre ih =>
    intro gs L h
    obtain ⟨g, gs', cur, T, L1, L2, rfl, h1, h2, h3, h4, h5, rfl⟩ := h
    obtain ⟨gs1, g', cur', T', M1, M2, rfl, e, k1, k2, k3, k4, rfl⟩ := ih h5
    exact ⟨g :: gs1, g', cur', T', L1 ++ M1, M2, rfl, by simp [e], k1, k2, k3, k4, by simp⟩
/-- The contract of a function that hands back a pointer to the last of its boxes. -/
theorem ct_bodyE {P : Program} {f : FuncId} {fn : Func} {c : Code} {args : List AC} {fK : List (List AC)} {Kr : List (List (List AC))} {cells : List AC} (t : Nat) (fi : FI) (hf : P.funcs[f]? = some fn) (hb : fn.body = some c) (hrs : fn.results.toList = [.tmp t])
    (hname : (fn.name == "runtime.NumGoroutine") = false) (hd : dstOk fn.ntmps c = true) (hl : (Nat.ble args.length fi.n0 && Nat.ble args.length fn.ntmps) = true)
    (ha : args.all noOwn = true) (hKp : (fK :: Kr).all (fun f => f.all (fun c => c.all plainA)) = true) (hcp : cells.all plainA = true) (ht : fi.th = [])
    (h : wC P fi c (fun e st => e = .ret ∧ ∃ pre, st.get t = .ptr 0 pre.length 0 ∧ st.K = (pre ++ [cells]) :: fK :: Kr) { env := argEnv 0 args, loc := [], K := [] :: fK :: Kr }) :
    Ct P f args (fK :: Kr) (.ptr 0 fK.length 0) ((fK ++ [cells]) :: Kr) := by
  simp only [Bool.and_eq_true] at hl
  have hl := And.intro (Nat.le_of_ble_eq_true hl.1) (Nat.le_of_ble_eq_true hl.2)
  refine ⟨⟨fn, hf, by rw [hb]; rfl, hname⟩, ?_⟩
  intro w Pr bl vals La Lk hargs hK hcnt hprlt htab
  have hvl := hargs.length
  have hLa : La = [] := noOwn_nil ha hargs
  have hLk : Lk = [] := hK.plain hKp
  subst hLa hLk
  let C : Cx := ⟨P, fn.ntmps, fi, w, Pr, [] ++ [] ++ bl.flatten, bl, htab⟩
  let tmps : Array Value := vals.toArray ++ Array.replicate (fn.ntmps - vals.toArray.size) undef
  have htmps : ∀ j v, vals[j]? = some v → tmps[0 + j]? = some v := by
    intro j v hj
    have hjl := (List.getElem?_eq_some_iff.1 hj).1
    show (vals.toArray ++ Array.replicate (fn.ntmps - vals.toArray.size) undef)[0 + j]? = some v
    rw [Nat.zero_add, Array.getElem?_append_left (by simpa using hjl)]
    simpa using hj
  obtain ⟨Le, hE, hEc⟩ := argEnv_rep (moves_lift 1 [[]] bl rfl) 0 tmps hargs htmps
  have hS : SR C { env := argEnv 0 args, loc := [], K := [] :: fK :: Kr } { tmps := tmps, defers := [] } w Pr [] [] [] := by
    refine ⟨Le, [], [], [], ⟨hE, rfl, .nil, ⟨[], bl, [], [], rfl, ⟨rfl, rfl⟩, hK, rfl⟩, fun x => ?_, fun x hx => ?_, ⟨argEnv_nodup _ _, fun k hk => ?_⟩, by simp, hprlt, ⟨rfl, rfl, rfl, Nat.le_refl _, fun _ _ _ => rfl, fun p hp => ⟨hp, rfl⟩, fun p hp => .inl hp⟩, rfl, ?_⟩⟩
    · have := hcnt x; have := hEc x
      show Le.count x + ([] : List Nat).count x + ([] : List Nat).count x + ([] : List Nat).count x + ([] :: bl).flatten.count x ≤ 1
      simp only [List.count_append, List.flatten_cons, List.count_nil] at *; omega
    · left
      show x ∈ [] ++ [] ++ bl.flatten
      have hx' : 0 < Le.count x + ([] : List Nat).count x + ([] : List Nat).count x + ([] : List Nat).count x + ([] :: bl).flatten.count x := hx
      refine List.count_pos_iff.1 ?_
      have := hEc x
      simp only [List.count_append, List.flatten_cons, List.count_nil] at *; omega
    · have := argEnv_keys args 0 k hk
      show fi.isVar k = true
      unfold FI.isVar
      rw [if_pos (by omega)]
    · show (vals.toArray ++ Array.replicate (fn.ntmps - vals.toArray.size) undef).size = fn.ntmps
      simp only [Array.size_append, List.size_toArray, Array.size_replicate]; omega
  have hw := wC_sound (C := C) (.inl ht) c _ _ _ _ _ _ hd h hS
  refine calls_of_wp hf hb (wp_mono hw ?_)
  rintro e a' w' ⟨st', Pr', b', ⟨rfl, pre, hget, hKe⟩, hS'⟩
  have hwk : ∀ (s : St) (k : Nat), (s.weak k).K = s.K := fun s k => by
    unfold St.weak; split
    · rfl
    · split <;> rfl
  have hres : resVs C.P st' fn.results.toList = some ([.ptr 0 pre.length 0], st'.weak t) := by
    rw [hrs]; simp [resVs, resStep]; simpa [St.get] using hget
  obtain ⟨vals', hrun, hul, hS2, hk2⟩ := hS'.ress hres
  have hdef : a'.defers = [] := by obtain ⟨_, _, _, _, h0⟩ := hS'; exact h0.defers
  refine ⟨hdef, _, results_run hrun, ?_⟩
  obtain ⟨Lu, Le2, Ll2, Lx2, Lk2, hu1, h0, hc, hn1⟩ := hS2.out hul
  have hKr := h0.K
  rw [hwk, hKe] at hKr
  obtain ⟨b1, bl1, L1, L2, eb, hF1, hK1, eL⟩ := hKr
  have hb1 : b1 = b' := by cases eb; rfl
  have hbl : bl1 = bl := by cases eb; rfl
  subst hb1 hbl
  obtain ⟨gs1, g, cur, T, M1, M2, rfl, hgl, k1, k2, k3, k4, rfl⟩ := hF1.last
  obtain ⟨rfl, k2'⟩ := k2.plain hcp
  cases hu1 with
  | cons u1 u2 =>
  cases u2
  cases u1 with
  | ptr u3 =>
  rename_i g2
  have hg2 : g2 = g := by
    simp only [List.getElem?_cons_zero, Option.bind_some] at u3
    rw [List.getElem?_append_right (by omega), hgl, Nat.sub_self] at u3
    simpa using u3.symm
  subst hg2
  obtain ⟨bK, blr, L3, L4, rfl, hF2, hK2, rfl⟩ := hK1
  have hcnt2 : ∀ x, M1.count x + (L3.count x + L4.count x) + (gs1.count x + [g2].count x + (bK.count x + blr.flatten.count x)) ≤ 1 := fun x => by
    have h1 := h0.cnt x
    have h2 : Lk2.count x = M1.count x + (L3.count x + L4.count x) := by rw [eL]; simp
    have h3 : ((gs1 ++ [g2]) :: C.bl0).flatten.count x = gs1.count x + [g2].count x + (bK.count x + blr.flatten.count x) := by
      show ((gs1 ++ [g2]) :: bK :: blr).flatten.count x = _
      simp only [List.flatten_cons, List.count_append]
    omega
  have hnew : ∀ x, 0 < M1.count x + (L3.count x + L4.count x) + (gs1.count x + [g2].count x) → w.heap.size ≤ x := fun x hx => by
    have h2 : Lk2.count x = M1.count x + (L3.count x + L4.count x) := by rw [eL]; simp
    have h3 : ((gs1 ++ [g2]) :: C.bl0).flatten.count x = gs1.count x + [g2].count x + (bK.count x + blr.flatten.count x) := by
      show ((gs1 ++ [g2]) :: bK :: blr).flatten.count x = _
      simp only [List.flatten_cons, List.count_append]
    rcases h0.new x (by omega) with hin | hin
    · have hin' : x ∈ [] ++ [] ++ (bK :: blr).flatten := hin
      have h4 := List.count_pos_iff.2 hin'
      simp only [List.nil_append, List.flatten_cons, List.count_append] at h4
      have := hcnt2 x
      omega
    · exact hin
  have hg1 : [g2].count g2 = 1 := by simp
  obtain ⟨L5, hF3, hL5⟩ := (hF2.ext (xs := [g2])).push k1 (k2' _) k3 k4
  refine ⟨_, Pr', [], L5 ++ L4, (bK ++ [g2]) :: blr, rfl, .inr ⟨bK, blr, [g2], rfl, rfl, fun y hy => ?_⟩, ?_, ⟨_, _, _, _, rfl, hF3, hK2, rfl⟩, fun x => ?_, fun x hx => ?_, h0.prlt, h0.since⟩
  · obtain rfl : y = g2 := by simpa using hy
    exact hnew _ (by omega)
  · have hfl := hF2.length
    exact .ptr (by simp only [List.getElem?_cons_zero, Option.bind_some]; rw [hfl, List.getElem?_append_right (Nat.le_refl _), Nat.sub_self]; rfl)
  · have h1 := hcnt2 x
    have h2 := hL5 x
    simp only [List.nil_append, List.flatten_cons, List.count_append, List.count_nil] at h1 h2 ⊢
    omega
  · right
    refine hnew x ?_
    have h2 := hL5 x
    have := List.count_pos_iff.2 hx
    simp only [List.nil_append, List.count_append, List.count_nil] at this h2
    omega
end Go.Proofs.YtkefgpmnimpcdaaGreatDoor.Abs
