/- Marks: what the laws write into what they were handed. No condition. -/
import Derived.Test.YtkefgpmnimpcdaaGreatDoorFStr
import Derived.Test.YtkefgpmnimpcdaaGreatDoorLend
set_option linter.unusedVariables false
set_option linter.unusedSimpArgs false
namespace Go.Proofs.YtkefgpmnimpcdaaGreatDoor.Abs
open Go
set_option maxHeartbeats 1000000
set_option maxRecDepth 100000
mutual
def cnT : Tr → Nat
  | .bool _ => 1
  | .int _ _ => 1
  | .str _ => 1
  | .sl _ rows => cnR rows
def cnL : List Tr → Nat
  | [] => 0
  | t :: ts => cnT t + cnL ts
def cnR : List (List Tr) → Nat
  | [] => 0
  | r :: rs => cnL r + cnR rs
end
mutual
def mkT : Tr → Int → Tr
  | .bool _, k => .bool (decide (k % 3 = 0))
  | .int j _, k => .int j k
  | .str _, k => .str (mText k)
  | .sl e rows, k => .sl e (mkR rows k)
def mkL : List Tr → Int → List Tr
  | [], _ => []
  | t :: ts, k => mkT t k :: mkL ts (k + cnT t)
def mkR : List (List Tr) → Int → List (List Tr)
  | [], _ => []
  | r :: rs, k => mkL r k :: mkR rs (k + cnL r)
end
theorem mkR_len : ∀ {rs : List (List Tr)} {k : Int}, (mkR rs k).length = rs.length := by
  intro rs; induction rs with
  | nil => intro k; rfl
  | cons r rs ih => intro k; simp [mkR, ih]
theorem mkL_len : ∀ {rs : List Tr} {k : Int}, (mkL rs k).length = rs.length := by
  intro rs; induction rs with
  | nil => intro k; rfl
  | cons r rs ih => intro k; simp [mkL, ih]
theorem cnR_app {a b : List (List Tr)} : cnR (a ++ b) = cnR a + cnR b := by
  induction a with
  | nil => simp [cnR]
  | cons r rs ih => simp [cnR, ih]; omega
theorem mkR_app {a b : List (List Tr)} : ∀ {k : Int}, mkR (a ++ b) k = mkR a k ++ mkR b (k + cnR a) := by
  induction a with
  | nil => intro k; simp [mkR, cnR]
  | cons r rs ih => intro k; simp [mkR, cnR, ih]; congr 1; omega
theorem cnL_app {a b : List Tr} : cnL (a ++ b) = cnL a + cnL b := by
  induction a with
  | nil => simp [cnL]
  | cons r rs ih => simp [cnL, ih]; omega
theorem mkL_app {a b : List Tr} : ∀ {k : Int}, mkL (a ++ b) k = mkL a k ++ mkL b (k + cnL a) := by
  induction a with
  | nil => intro k; simp [mkL, cnL]
  | cons r rs ih => intro k; simp [mkL, cnL, ih]; congr 1; omega
/-- The first i rows marked. -/
def part (rows : List (List Tr)) (k : Int) (i : Nat) : List (List Tr) := mkR (rows.take i) k ++ rows.drop i
def pre (rows : List (List Tr)) (k : Int) (i : Nat) : List AC := encR .ex (mkR (rows.take i) k)
def post (rows : List (List Tr)) (i : Nat) : List AC := encR .ex (rows.drop (i + 1))
def at_ (rows : List (List Tr)) (k : Int) (i : Nat) : Int := k + cnR (rows.take i)
theorem part_at {rows : List (List Tr)} {k : Int} {i : Nat} {r : List Tr} (h : rows[i]? = some r) : encR .ex (part rows k i) = pre rows k i ++ (encL .ex r ++ post rows i) := by
  obtain ⟨hlt, rfl⟩ := List.getElem?_eq_some_iff.1 h
  unfold part pre post; rw [encR_app, List.drop_eq_getElem_cons hlt]; rfl
theorem at_succ {rows : List (List Tr)} {k : Int} {i : Nat} {r : List Tr} (h : rows[i]? = some r) : at_ rows k (i + 1) = at_ rows k i + cnL r := by
  unfold at_; rw [List.take_add_one, h, cnR_app]; simp [cnR]; omega
theorem part_next {rows : List (List Tr)} {k : Int} {i : Nat} {r : List Tr} (h : rows[i]? = some r) : pre rows k i ++ (encL .ex (mkL r (at_ rows k i)) ++ post rows i) = encR .ex (part rows k (i + 1)) := by
  unfold part pre post at_; rw [List.take_add_one, h, encR_app, mkR_app, encR_app]
  simp [mkR, encR]
theorem mkR_rows {w : Nat} : ∀ {rs : List (List Tr)} {k : Int}, (∀ r ∈ rs, r.length = w) → ∀ r ∈ mkR rs k, r.length = w := by
  intro rs; induction rs with
  | nil => intro k _ r hr; cases hr
  | cons a rs ih =>
    intro k h r hr
    simp only [mkR, List.mem_cons] at hr
    rcases hr with rfl | hr
    · rw [mkL_len]; exact h a List.mem_cons_self
    · exact ih (fun r hr => h r (List.mem_cons_of_mem _ hr)) r hr
theorem pre_len {rows : List (List Tr)} {k : Int} {i w : Nat} (hw : ∀ r ∈ rows, r.length = w) (hi : i ≤ rows.length) : (pre rows k i).length = i * w := by
  unfold pre; rw [encR_len (k := w), mkR_len, List.length_take, Nat.min_eq_left hi]
  exact mkR_rows fun r hr => hw r (List.mem_of_mem_take hr)
theorem mkR_get {r : List Tr} : ∀ {rows : List (List Tr)} {k : Int} {i : Nat}, rows[i]? = some r → (mkR rows k)[i]? = some (mkL r (at_ rows k i)) := by
  intro rows; induction rows with
  | nil => intro k i h; simp at h
  | cons a rs ih =>
    intro k i h
    cases i with
    | zero => simp at h; subst h; simp [mkR, at_, cnR]
    | succ i =>
      simp only [List.getElem?_cons_succ] at h
      simp only [mkR, List.getElem?_cons_succ]
      rw [ih h]
      congr 2
      unfold at_; simp [cnR]; omega
theorem encMk_len {m : Md} {rows : List (List Tr)} {k : Int} {w : Nat} (hw : ∀ r ∈ rows, r.length = w) : (encR m (mkR rows k)).length = rows.length * w := by rw [encR_len (mkR_rows hw), mkR_len]
theorem cnR_take_le {rows : List (List Tr)} (i : Nat) : cnR (rows.take i) ≤ cnR rows := by
  conv => rhs; rw [← List.take_append_drop i rows, cnR_app]
  omega
theorem at_bnd {rows : List (List Tr)} {k : Int} {i : Nat} {r : List Tr} (h : rows[i]? = some r) : k ≤ at_ rows k i ∧ at_ rows k i + cnL r ≤ k + cnR rows := by
  have h1 := at_succ (k := k) h
  have h2 := cnR_take_le (rows := rows) (i + 1)
  unfold at_ at *; omega
theorem part_zero {rows : List (List Tr)} {k : Int} : part rows k 0 = rows := by simp [part, mkR]
theorem part_all {rows : List (List Tr)} {k : Int} : part rows k rows.length = mkR rows k := by simp [part]
theorem at_zero {rows : List (List Tr)} {k : Int} : at_ rows k 0 = k := by simp [at_, cnR]
theorem at_all {rows : List (List Tr)} {k : Int} : at_ rows k rows.length = k + cnR rows := by simp [at_]
theorem AC.le_of_eq {a b : AC} (h : a = b) : a.le b := h ▸ .refl
/-! Behind the first A. -/
section
variable {A X : List AC} {n : Nat}
theorem put_app {j : Nat} {v : AC} (hA : A.length = n) (hj : j < X.length) : putCells (A ++ X) (n + j) [v] = A ++ X.set j v := by
  subst hA
  unfold putCells
  rw [List.take_length_add_append, Nat.add_assoc, List.drop_length_add_append, List.append_assoc, List.append_assoc, List.set_eq_take_append_cons_drop, if_pos hj]
  rfl
theorem put_app0 {v : AC} (hA : A.length = n) (hj : 0 < X.length) : putCells (A ++ X) n [v] = A ++ X.set 0 v := put_app (j := 0) hA hj
theorem td_app {j m : Nat} (hA : A.length = n) : ((A ++ X).drop (n + j)).take m = (X.drop j).take m := by
  subst hA; rw [List.drop_length_add_append]
theorem td_app0 {m : Nat} (hA : A.length = n) : ((A ++ X).drop n).take m = X.take m := by
  have := td_app (X := X) (j := 0) (m := m) hA; simpa using this
theorem get_app {j : Nat} (hA : A.length = n) : (A ++ X)[n + j]? = X[j]? := by
  subst hA
  rw [List.getElem?_append_right (by omega)]
  congr 1; omega
theorem get_app0 (hA : A.length = n) : (A ++ X)[n]? = X[0]? := get_app (j := 0) hA
theorem getE_app {j : Nat} (hA : A.length = n) (h : n + j < (A ++ X).length) : (A ++ X)[n + j]'h = X[j]'(by rw [List.length_append] at h; omega) := by
  subst hA
  rw [List.getElem_append_right (by omega)]
  congr 1; omega
theorem getE_app0 (hA : A.length = n) (h : n < (A ++ X).length) : (A ++ X)[n]'h = X[0]'(by rw [List.length_append] at h; omega) := getE_app (j := 0) hA h
theorem set_app {j : Nat} {v : AC} (hA : A.length = n) : (A ++ X).set (n + j) v = A ++ X.set j v := by
  subst hA
  rw [List.set_append_right _ _ (by omega)]
  congr 2; omega
theorem set_app0 {v : AC} (hA : A.length = n) : (A ++ X).set n v = A ++ X.set 0 v := set_app (j := 0) hA
theorem len_app (hA : A.length = n) : (A ++ X).length = n + X.length := by simp [hA]
end
/-! Rows are no wider than 40: so marks are no more than forty times the size. -/
mutual
def wdT : Tr → Prop
  | .sl _ rows => wdR rows
  | _ => True
def wdL : List Tr → Prop
  | [] => True
  | t :: ts => wdT t ∧ wdL ts
def wdR : List (List Tr) → Prop
  | [] => True
  | r :: rs => r.length ≤ 40 ∧ wdL r ∧ wdR rs
end
mutual
theorem cnT_le : ∀ t : Tr, wdT t → cnT t ≤ 1 + 40 * szT t
  | .bool _, _ => by simp [cnT]
  | .int _ _, _ => by simp [cnT]
  | .str _, _ => by simp [cnT]
  | .sl e rows, h => by
    simp only [wdT] at h
    have := cnR_le rows h
    simp only [cnT, szT]; omega
theorem cnL_le : ∀ r : List Tr, wdL r → cnL r ≤ r.length + 40 * szL r
  | [], _ => by simp [cnL]
  | t :: ts, h => by
    simp only [wdL] at h
    have h1 := cnT_le t h.1
    have h2 := cnL_le ts h.2
    simp only [cnL, szL, List.length_cons]; omega
theorem cnR_le : ∀ rs : List (List Tr), wdR rs → cnR rs ≤ 40 * (rs.length + szR rs)
  | [], _ => by simp [cnR]
  | r :: rs, h => by
    simp only [wdR] at h
    have h1 := cnL_le r h.2.1
    have h2 := cnR_le rs h.2.2
    simp only [cnR, szR, List.length_cons]; omega
end
theorem wd_StrS : ∀ xs : List Bs, wdR (tStrS xs)
  | [] => trivial
  | x :: xs => by simp only [tStrS, wdR, wdL, wdT]; exact ⟨by simp, ⟨trivial, trivial⟩, wd_StrS xs⟩
theorem cn_StringS (xs : List Bs) : cnR (tStrS xs) ≤ 40 * (xs.length + szR (tStrS xs)) := by
  have := cnR_le _ (wd_StrS xs); rwa [tStrS_len] at this
theorem c_markStringS (xs : List Bs) (k : Int) (K) (h1 : 0 ≤ k) (h2 : k + cnR (tStrS xs) < 1000000000000000000) : CtB Tryz.prog 69 [.sl (.ex 9) xs.length (encR .ex (tStrS xs)), .int .i64 k] K (.int .i64 (k + cnR (tStrS xs))) K (.sl (.ex 9) xs.length (encR .ex (mkR (tStrS xs) k))) := by
  refine ct_fnB { n0 := 6, ex := [], tk := [], es := true } Tryz.func69 rfl (by kernel_rfl) (by kernel_rfl) rfl (fun y => ?_)
  simp -implicitDefEqProofs [Tryz.f69]
  obtain ⟨I, hI⟩ : ∃ I : Nat → St → Prop, ∀ m s, I m s ↔ ∃ i, i ≤ xs.length ∧ m = xs.length - i ∧
    s = { env := [(0, .nam y (.sl (.ex 9) xs.length (encR .ex (part (tStrS xs) k i)))), (1, .int .i64 (at_ (tStrS xs) k i)), (4, .int .i64 0), (5, .int .i64 i)], loc := [], K := [] :: K } := ⟨_, fun _ _ => Iff.rfl⟩
  refine wC_loopI I xs.length ((hI _ _).2 ⟨0, by omega, rfl, rfl⟩) (St.le_of (by simp) (by simp [part_zero, at_zero]) rfl rfl) ?_
  intro m s hs
  obtain ⟨i, hi, rfl, rfl⟩ := (hI _ _).1 hs
  rcases Nat.lt_or_ge i xs.length with hlt | hge
  · obtain ⟨x, hx⟩ : ∃ x, xs[i]? = some x := ⟨_, List.getElem?_eq_getElem hlt⟩
    have hr := tStrS_get hx
    have hpl : (pre (tStrS xs) k i).length = i := by rw [pre_len (w := 1) tStrS_rows (by simp; omega)]; omega
    rw [part_at hr]
    have hnext := part_next (k := k) hr
    have hsucc := at_succ (k := k) hr
    have hbnd := at_bnd (k := k) hr
    generalize hat : at_ (tStrS xs) k i = n at *
    simp only [encL, encT, cnL, cnT, mkL, mkT, Nat.add_zero, List.cons_append, List.nil_append] at *
    simp -implicitDefEqProofs [hlt]
    intro hm
    refine callK_of (c_markText n _ (by omega) (by omega)) ?_
    simp -implicitDefEqProofs [hlt, -putCells, put_app hpl, put_app0 hpl, len_app hpl]
    unfold maxLen at *
    simp (disch := omega) only [wrap64]
    refine ⟨xs.length - (i + 1), by omega, _, St.le_of (by simp) (by simp [St.trunc, look, mapV, mapC, killP, hnext, hsucc]) rfl (by simp [St.trunc, mapC]), (hI _ _).2 ⟨i + 1, by omega, rfl, rfl⟩⟩
  · have e : i = xs.length := by omega
    subst e
    have e1 : at_ (tStrS xs) k xs.length = k + cnR (tStrS xs) := by have := at_all (rows := tStrS xs) (k := k); rwa [tStrS_len] at this
    have e2 : part (tStrS xs) k xs.length = mkR (tStrS xs) k := by have := part_all (rows := tStrS xs) (k := k); rwa [tStrS_len] at this
    simp -implicitDefEqProofs [e1, e2]
end Go.Proofs.YtkefgpmnimpcdaaGreatDoor.Abs
