/- Texts in rising order, each once: plain facts. No condition. -/
import Derived.Test.YtkpdlbidadcdjaaTr
set_option linter.unusedVariables false
set_option linter.unusedSimpArgs false
namespace Go.Proofs.Ytkpdlbidadcdjaa.Abs
open Go
theorem bl_irrefl : ∀ x : Bs, Op.bytesLess x x = false := by
  intro x; induction x with
  | nil => rfl
  | cons a x ih => simp [Op.bytesLess, ih]
theorem bl_trich : ∀ x y : Bs, Op.bytesLess x y = false → Op.bytesLess y x = false → x = y := by
  intro x; induction x with
  | nil => intro y h1 h2; cases y with
    | nil => rfl
    | cons b y => simp [Op.bytesLess] at h1
  | cons a x ih =>
    intro y h1 h2
    cases y with
    | nil => simp [Op.bytesLess] at h2
    | cons b y =>
      simp only [Op.bytesLess, Bool.or_eq_false_iff, decide_eq_false_iff_not, Bool.and_eq_false_iff, beq_eq_false_iff_ne, UInt8.not_lt] at h1 h2
      have e : a = b := UInt8.le_antisymm h2.1 h1.1
      subst e
      rw [ih y (h1.2.resolve_left (fun h => h rfl)) (h2.2.resolve_left (fun h => h rfl))]
theorem bl_trans : ∀ x y z : Bs, Op.bytesLess x y = true → Op.bytesLess y z = true → Op.bytesLess x z = true := by
  intro x; induction x with
  | nil => intro y z h1 h2; cases z with
    | nil => cases y <;> simp [Op.bytesLess] at h2
    | cons c z => rfl
  | cons a x ih =>
    intro y z h1 h2
    cases y with
    | nil => simp [Op.bytesLess] at h1
    | cons b y =>
      cases z with
      | nil => simp [Op.bytesLess] at h2
      | cons c z =>
        simp only [Op.bytesLess, Bool.or_eq_true, decide_eq_true_eq, Bool.and_eq_true, beq_iff_eq] at h1 h2 ⊢
        rcases h1 with h1 | ⟨rfl, h1⟩
        · rcases h2 with h2 | ⟨rfl, h2⟩
          · exact .inl (UInt8.lt_trans h1 h2)
          · exact .inl h1
        · rcases h2 with h2 | ⟨rfl, h2⟩
          · exact .inl h2
          · exact .inr ⟨rfl, ih y z h1 h2⟩
def blt (x y : Bs) : Prop := Op.bytesLess x y = true
def ble (x y : Bs) : Prop := blt x y ∨ x = y
theorem ble_trans {x y z : Bs} (h1 : ble x y) (h2 : ble y z) : ble x z := by
  rcases h1 with h1 | rfl
  · rcases h2 with h2 | rfl
    · exact .inl (bl_trans _ _ _ h1 h2)
    · exact .inl h1
  · exact h2
theorem ble_total (x y : Bs) : ble x y ∨ blt y x := by
  cases h : Op.bytesLess x y with
  | true => exact .inl (.inl h)
  | false => cases h2 : Op.bytesLess y x with
    | true => exact .inr h2
    | false => exact .inl (.inr (bl_trich _ _ h h2))
theorem blt_not {x y : Bs} (h : blt x y) : ¬ ble y x := by
  intro h2
  rcases h2 with h2 | rfl
  · have := bl_trans _ _ _ h h2; rw [bl_irrefl] at this; cases this
  · rw [blt, bl_irrefl] at h; cases h
def lastIs (out : List Bs) (s : Bs) : Bool := match out.getLast? with
  | some l => decide (l = s)
  | none => false
def push (out : List Bs) (s : Bs) : List Bs := if lastIs out s then out else out ++ [s]
def mergeU : List Bs → List Bs → List Bs → List Bs
  | [], [], out => out
  | x :: a, [], out => mergeU a [] (push out x)
  | [], y :: b, out => mergeU [] b (push out y)
  | x :: a, y :: b, out => if Op.bytesLess x y || decide (x = y) then mergeU a (y :: b) (push out x) else mergeU (x :: a) b (push out y)
termination_by a b => a.length + b.length
theorem push_mem {out : List Bs} {s v : Bs} : v ∈ push out s ↔ v ∈ out ∨ v = s := by
  unfold push
  split
  · rename_i h
    unfold lastIs at h
    split at h
    · rename_i l hl
      simp at h; subst h
      have := List.mem_of_getLast? hl
      exact ⟨.inl, fun h => h.elim id fun h => h ▸ this⟩
    · cases h
  · simp
theorem mergeU_mem : ∀ (n : Nat) (a b out : List Bs), a.length + b.length ≤ n → ∀ v, v ∈ mergeU a b out ↔ v ∈ a ∨ v ∈ b ∨ v ∈ out := by
  intro n
  induction n with
  | zero =>
    intro a b out h v
    obtain rfl : a = [] := List.eq_nil_of_length_eq_zero (by omega)
    obtain rfl : b = [] := List.eq_nil_of_length_eq_zero (by omega)
    simp [mergeU]
  | succ n ih =>
    intro a b out h v
    cases a with
    | nil => cases b with
      | nil => simp [mergeU]
      | cons y b =>
        rw [mergeU, ih _ _ _ (by simp at h ⊢; omega), push_mem]; simp; grind
    | cons x a => cases b with
      | nil => rw [mergeU, ih _ _ _ (by simp at h ⊢; omega), push_mem]; simp; grind
      | cons y b =>
        rw [mergeU]
        split
        · rw [ih _ _ _ (by simp at h ⊢; omega), push_mem]; simp; grind
        · rw [ih _ _ _ (by simp at h ⊢; omega), push_mem]; simp; grind
def Strict (l : List Bs) : Prop := l.Pairwise blt
theorem push_strict {out : List Bs} {s : Bs} (h : Strict out) (hb : ∀ v ∈ out, ble v s) : Strict (push out s) := by
  unfold push
  split
  · exact h
  · rename_i hl
    refine List.pairwise_append.2 ⟨h, by simp, fun v hv w hw => ?_⟩
    simp at hw; subst hw
    rcases hb v hv with h1 | rfl
    · exact h1
    · exfalso
      apply hl
      unfold lastIs
      -- the last one is at least v, and at most v
      cases hg : out.getLast? with
      | none => rw [List.getLast?_eq_none_iff] at hg; subst hg; cases hv
      | some l =>
        have hne : out ≠ [] := by rintro rfl; cases hv
        have hl2 := List.mem_of_getLast? hg
        rcases hb l hl2 with h2 | h2
        · exfalso
          obtain ⟨A, rfl⟩ : ∃ A, out = A ++ [l] := by
            rw [List.getLast?_eq_some_iff] at hg; exact hg
          have hp := List.pairwise_append.1 h
          rcases List.mem_append.1 hv with h3 | h3
          · exact blt_not (hp.2.2 v h3 l (by simp)) (.inl h2)
          · simp at h3; subst h3; rw [blt, bl_irrefl] at h2; cases h2
        · simp [h2]
theorem mergeU_strict : ∀ (n : Nat) (a b out : List Bs), a.length + b.length ≤ n → Strict a → Strict b → Strict out → (∀ v ∈ out, (∀ x ∈ a, ble v x) ∧ ∀ y ∈ b, ble v y) → Strict (mergeU a b out) := by
  intro n
  induction n with
  | zero =>
    intro a b out h _ _ ho _
    obtain rfl : a = [] := List.eq_nil_of_length_eq_zero (by omega)
    obtain rfl : b = [] := List.eq_nil_of_length_eq_zero (by omega)
    simpa [mergeU] using ho
  | succ n ih =>
    intro a b out h ha hb ho hm
    cases a with
    | nil => cases b with
      | nil => simpa [mergeU] using ho
      | cons y b =>
        have hb' := List.pairwise_cons.1 hb
        rw [mergeU]
        refine ih _ _ _ (by simp at h ⊢; omega) ha hb'.2 (push_strict ho fun v hv => (hm v hv).2 y (by simp)) fun v hv => ⟨by simp, fun z hz => ?_⟩
        rcases push_mem.1 hv with h1 | rfl
        · exact (hm v h1).2 z (by simp [hz])
        · exact .inl (hb'.1 z hz)
    | cons x a => cases b with
      | nil =>
        have ha' := List.pairwise_cons.1 ha
        rw [mergeU]
        refine ih _ _ _ (by simp at h ⊢; omega) ha'.2 hb (push_strict ho fun v hv => (hm v hv).1 x (by simp)) fun v hv => ⟨fun z hz => ?_, by simp⟩
        rcases push_mem.1 hv with h1 | rfl
        · exact (hm v h1).1 z (by simp [hz])
        · exact .inl (ha'.1 z hz)
      | cons y b =>
        have ha' := List.pairwise_cons.1 ha
        have hb' := List.pairwise_cons.1 hb
        rw [mergeU]
        split
        · rename_i hxy
          have hxy : ble x y := by simpa [ble, blt] using hxy
          refine ih _ _ _ (by simp at h ⊢; omega) ha'.2 hb (push_strict ho fun v hv => (hm v hv).1 x (by simp)) fun v hv => ⟨fun z hz => ?_, fun z hz => ?_⟩
          · rcases push_mem.1 hv with h1 | rfl
            · exact (hm v h1).1 z (by simp [hz])
            · exact .inl (ha'.1 z hz)
          · rcases push_mem.1 hv with h1 | rfl
            · exact (hm v h1).2 z hz
            · rcases List.mem_cons.1 hz with rfl | hz
              · exact hxy
              · exact ble_trans hxy (.inl (hb'.1 z hz))
        · rename_i hxy
          have hyx : blt y x := by
            rcases ble_total x y with h1 | h1
            · exact absurd (by simpa [ble, blt] using h1) hxy
            · exact h1
          refine ih _ _ _ (by simp at h ⊢; omega) ha hb'.2 (push_strict ho fun v hv => (hm v hv).2 y (by simp)) fun v hv => ⟨fun z hz => ?_, fun z hz => ?_⟩
          · rcases push_mem.1 hv with h1 | rfl
            · exact (hm v h1).1 z hz
            · rcases List.mem_cons.1 hz with rfl | hz
              · exact .inl hyx
              · exact ble_trans (.inl hyx) (.inl (ha'.1 z hz))
          · rcases push_mem.1 hv with h1 | rfl
            · exact (hm v h1).2 z (by simp [hz])
            · exact .inl (hb'.1 z hz)
def sortU (xs : List Bs) : List Bs := if h : xs.length < 2 then xs else mergeU (sortU (xs.take (xs.length / 2))) (sortU (xs.drop (xs.length / 2))) []
termination_by xs.length
decreasing_by
  · simp; omega
  · simp; omega
theorem sortU_ok : ∀ (n : Nat) (xs : List Bs), xs.length ≤ n → Strict (sortU xs) ∧ ∀ v, v ∈ sortU xs ↔ v ∈ xs := by
  intro n
  induction n with
  | zero =>
    intro xs h
    obtain rfl : xs = [] := List.eq_nil_of_length_eq_zero (by omega)
    rw [sortU]; simp [Strict]
  | succ n ih =>
    intro xs h
    rw [sortU]
    split
    · rename_i h2
      refine ⟨?_, fun v => Iff.rfl⟩
      match xs, h2 with
      | [], _ => simp [Strict]
      | [x], _ => simp [Strict]
      | _ :: _ :: _, h2 => simp at h2; omega
    · have h1 := ih (xs.take (xs.length / 2)) (by simp; omega)
      have h2 := ih (xs.drop (xs.length / 2)) (by simp; omega)
      refine ⟨mergeU_strict _ _ _ _ (Nat.le_refl _) h1.1 h2.1 (by simp [Strict]) (by simp), fun v => ?_⟩
      rw [mergeU_mem _ _ _ _ (Nat.le_refl _), h1.2, h2.2]
      conv => rhs; rw [← List.take_append_drop (xs.length / 2) xs, List.mem_append]
      simp
theorem push_nil {s : Bs} : push [] s = [s] := rfl
theorem push_ne {L : List Bs} {l s : Bs} (h : ¬ l = s) : push (L ++ [l]) s = L ++ [l] ++ [s] := by simp [push, lastIs, h]
theorem push_eq {L : List Bs} {l s : Bs} (h : l = s) : push (L ++ [l]) s = L ++ [l] := by simp [push, lastIs, h]
theorem mergeU_len : ∀ (n : Nat) (a b out : List Bs), a.length + b.length ≤ n → (mergeU a b out).length ≤ a.length + b.length + out.length := by
  have hp : ∀ (out : List Bs) (s : Bs), (push out s).length ≤ out.length + 1 := by
    intro out s; unfold push; split <;> simp
  intro n
  induction n with
  | zero =>
    intro a b out h
    obtain rfl : a = [] := List.eq_nil_of_length_eq_zero (by omega)
    obtain rfl : b = [] := List.eq_nil_of_length_eq_zero (by omega)
    simp [mergeU]
  | succ n ih =>
    intro a b out h
    cases a with
    | nil => cases b with
      | nil => simp [mergeU]
      | cons y b =>
        rw [mergeU]
        have := ih [] b (push out y) (by simp at h ⊢; omega)
        have := hp out y
        simp at *; omega
    | cons x a => cases b with
      | nil =>
        rw [mergeU]
        have := ih a [] (push out x) (by simp at h ⊢; omega)
        have := hp out x
        simp at *; omega
      | cons y b =>
        rw [mergeU]
        split
        · have := ih a (y :: b) (push out x) (by simp at h ⊢; omega)
          have := hp out x
          simp at *; omega
        · have := ih (x :: a) b (push out y) (by simp at h ⊢; omega)
          have := hp out y
          simp at *; omega
theorem sortU_len : ∀ (n : Nat) (xs : List Bs), xs.length ≤ n → (sortU xs).length ≤ xs.length := by
  intro n
  induction n with
  | zero => intro xs h; rw [sortU, dif_pos (by omega)]; exact Nat.le_refl _
  | succ n ih =>
    intro xs h
    rw [sortU]
    split
    · exact Nat.le_refl _
    · have h1 := ih (xs.take (xs.length / 2)) (by simp; omega)
      have h2 := ih (xs.drop (xs.length / 2)) (by simp; omega)
      have h3 := mergeU_len _ (sortU (xs.take (xs.length / 2))) (sortU (xs.drop (xs.length / 2))) [] (Nat.le_refl _)
      simp at *; omega
theorem search_mem {xs : List Bs} {v : Bs} {lo : Nat} (hs : Strict xs) (hlo : ∀ (j : Nat) (x : Bs), xs[j]? = some x → j < lo → blt x v) (hup : ∀ (j : Nat) (x : Bs), xs[j]? = some x → lo ≤ j → ¬ blt x v) : v ∈ xs ↔ xs[lo]? = some v := by
  constructor
  · intro hm
    obtain ⟨j, hj⟩ := List.mem_iff_getElem?.1 hm
    rcases Nat.lt_trichotomy j lo with h | h | h
    · have := hlo j v hj h; rw [blt, bl_irrefl] at this; cases this
    · rw [← h]; exact hj
    · exfalso
      have hjl := (List.getElem?_eq_some_iff.1 hj).1
      have h1 := List.pairwise_iff_getElem.1 hs lo j (by omega) hjl h
      have h2 := (List.getElem?_eq_some_iff.1 hj).2
      rw [h2] at h1
      exact hup lo _ (List.getElem?_eq_getElem (by omega)) (Nat.le_refl _) h1
  · exact List.mem_of_getElem?
theorem merge_a {A B out : List Bs} {i k : Nat} {x : Bs} (hx : A[i]? = some x) (h : ∀ y, B[k]? = some y → (Op.bytesLess x y || decide (x = y)) = true) : mergeU (A.drop i) (B.drop k) out = mergeU (A.drop (i + 1)) (B.drop k) (push out x) := by
  obtain ⟨hlt, rfl⟩ := List.getElem?_eq_some_iff.1 hx
  rw [List.drop_eq_getElem_cons hlt]
  rcases Nat.lt_or_ge k B.length with hk | hk
  · have := h _ (List.getElem?_eq_getElem hk)
    rw [List.drop_eq_getElem_cons hk, mergeU, if_pos this]
  · rw [List.drop_of_length_le hk, mergeU]
theorem merge_b {A B out : List Bs} {i k : Nat} {y : Bs} (hy : B[k]? = some y) (h : ∀ x, A[i]? = some x → (Op.bytesLess x y || decide (x = y)) = false) : mergeU (A.drop i) (B.drop k) out = mergeU (A.drop i) (B.drop (k + 1)) (push out y) := by
  obtain ⟨hlt, rfl⟩ := List.getElem?_eq_some_iff.1 hy
  rw [List.drop_eq_getElem_cons hlt]
  rcases Nat.lt_or_ge i A.length with hk | hk
  · have := h _ (List.getElem?_eq_getElem hk)
    rw [List.drop_eq_getElem_cons hk, mergeU, if_neg (by rw [this]; simp)]
  · rw [List.drop_of_length_le hk, mergeU]
end Go.Proofs.Ytkpdlbidadcdjaa.Abs
