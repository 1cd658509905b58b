/- Selections: how many there are, all of them, names that are spread, names that are reached. Plain: no program. No condition. -/
import Derived.Test.YthagllbnkbahnaaGreatMk
set_option linter.unusedVariables false
set_option linter.unusedSimpArgs false
namespace Go.Proofs.YthagllbnkbahnaaGreat.Abs
open Go
set_option maxHeartbeats 1000000
mutual
/-- What a count leaves (the program's). -/
def clX : DSel → Int → Int
  | ⟨_, _, _, _, _, _, ss⟩, l => if 0 ≤ l - 1 then clS ss (l - 1) else l - 1
def clS : List DSel → Int → Int
  | [], l => l
  | x :: xs, l => clS xs (clX x l)
end
mutual
/-- What a count leaves (the reference's). -/
def spX : DSel → Int → Int
  | ⟨_, _, _, _, _, _, ss⟩, l => spS ss (l - 1)
def spS : List DSel → Int → Int
  | [], l => l
  | x :: xs, l => if 0 ≤ l then spS xs (spX x l) else l
end
mutual
def cntX : DSel → Nat
  | ⟨_, _, _, _, _, _, ss⟩ => 1 + cntS ss
def cntS : List DSel → Nat
  | [] => 0
  | x :: xs => cntX x + cntS xs
end
mutual
def allX : DSel → List DSel
  | ⟨a, b, c, d, e, f, ss⟩ => ⟨a, b, c, d, e, f, ss⟩ :: allS ss
def allS : List DSel → List DSel
  | [] => []
  | x :: xs => allX x ++ allS xs
end
theorem allX_eq (x : DSel) : allX x = x :: allS x.sels := by obtain ⟨a, b, c, d, e, f, ss⟩ := x; simp [allX]
theorem clX_eq (x : DSel) (l : Int) : clX x l = if 0 ≤ l - 1 then clS x.sels (l - 1) else l - 1 := by obtain ⟨a, b, c, d, e, f, ss⟩ := x; simp [clX]
theorem spX_eq (x : DSel) (l : Int) : spX x l = spS x.sels (l - 1) := by obtain ⟨a, b, c, d, e, f, ss⟩ := x; simp [spX]
theorem cntX_eq (x : DSel) : cntX x = 1 + cntS x.sels := by obtain ⟨a, b, c, d, e, f, ss⟩ := x; simp [cntX]
theorem clS_app : ∀ {a b : List DSel} {l : Int}, clS (a ++ b) l = clS b (clS a l) := by
  intro a; induction a with
  | nil => intro b l; simp [clS]
  | cons x a ih => intro b l; simp [clS, ih]
theorem clS_take {xs : List DSel} {i : Nat} {x : DSel} {l : Int} (h : xs[i]? = some x) : clS (xs.take (i + 1)) l = clX x (clS (xs.take i) l) := by
  rw [List.take_add_one, h, clS_app]; simp [clS]
theorem cntS_app : ∀ {a b : List DSel}, cntS (a ++ b) = cntS a + cntS b := by
  intro a; induction a with
  | nil => intro b; simp [cntS]
  | cons x a ih => intro b; simp [cntS, ih]; omega
theorem allS_app : ∀ {a b : List DSel}, allS (a ++ b) = allS a ++ allS b := by
  intro a; induction a with
  | nil => intro b; simp [allS]
  | cons x a ih => intro b; simp [allS, ih]
theorem allS_take {xs : List DSel} {i : Nat} {x : DSel} (h : xs[i]? = some x) : allS (xs.take (i + 1)) = allS (xs.take i) ++ (x :: allS x.sels) := by
  rw [List.take_add_one, h, allS_app]; simp [allS, allX_eq]
theorem cntS_take {xs : List DSel} {i : Nat} {x : DSel} (h : xs[i]? = some x) : cntS (xs.take (i + 1)) = cntS (xs.take i) + (1 + cntS x.sels) := by
  rw [List.take_add_one, h, cntS_app]; simp [cntS, cntX_eq]
theorem cntS_take_le {xs : List DSel} (i : Nat) : cntS (xs.take i) ≤ cntS xs := by
  conv => rhs; rw [← List.take_append_drop i xs, cntS_app]
  omega
mutual
theorem clX_ok : ∀ (x : DSel) (l : Int), ((cntX x : Int) ≤ l → clX x l = l - cntX x) ∧ (l < (cntX x : Int) → clX x l < 0) ∧ l - cntX x ≤ clX x l ∧ clX x l < l
  | ⟨a, b, c, d, e, f, ss⟩, l => by
    have := clS_ok ss (l - 1)
    simp only [clX, cntX]
    by_cases h : 0 ≤ l - 1
    · rw [if_pos h]; omega
    · rw [if_neg h]; omega
theorem clS_ok : ∀ (xs : List DSel) (l : Int), ((cntS xs : Int) ≤ l → clS xs l = l - cntS xs) ∧ (l < (cntS xs : Int) → clS xs l < 0) ∧ l - cntS xs ≤ clS xs l ∧ clS xs l ≤ l
  | [], l => by simp only [clS, cntS]; omega
  | x :: xs, l => by
    have h1 := clX_ok x l
    have h2 := clS_ok xs (clX x l)
    simp only [clS, cntS]; omega
end
mutual
theorem spX_ok : ∀ (x : DSel) (l : Int), ((cntX x : Int) ≤ l → spX x l = l - cntX x) ∧ (l < (cntX x : Int) → spX x l < 0) ∧ l - cntX x ≤ spX x l ∧ spX x l < l
  | ⟨a, b, c, d, e, f, ss⟩, l => by
    have := spS_ok ss (l - 1)
    simp only [spX, cntX]; omega
theorem spS_ok : ∀ (xs : List DSel) (l : Int), ((cntS xs : Int) ≤ l → spS xs l = l - cntS xs) ∧ (l < (cntS xs : Int) → spS xs l < 0) ∧ l - cntS xs ≤ spS xs l ∧ spS xs l ≤ l
  | [], l => by simp only [spS, cntS]; omega
  | x :: xs, l => by
    have h1 := spX_ok x l
    have h2 := spS_ok xs (spX x l)
    simp only [spS, cntS]
    by_cases h : 0 ≤ l
    · rw [if_pos h]; omega
    · rw [if_neg h]; omega
end
mutual
theorem cntX_le : ∀ (x : DSel), cntX x ≤ 1 + szL (tSel x)
  | ⟨a, b, c, d, e, f, ss⟩ => by
    have := cntS_le ss
    simp only [cntX, tSel, szL, szT, tSelS_len]; omega
theorem cntS_le : ∀ (xs : List DSel), cntS xs ≤ xs.length + szR (tSelS xs)
  | [] => by simp [cntS]
  | x :: xs => by
    have h1 := cntX_le x
    have h2 := cntS_le xs
    simp only [cntS, tSelS, szR, List.length_cons]; omega
end
mutual
theorem allX_len : ∀ (x : DSel), (allX x).length = cntX x
  | ⟨a, b, c, d, e, f, ss⟩ => by
    have := allS_len ss
    simp only [allX, cntX, List.length_cons, this]; omega
theorem allS_len : ∀ (xs : List DSel), (allS xs).length = cntS xs
  | [] => by simp [cntS, allS]
  | x :: xs => by
    have h1 := allX_len x
    have h2 := allS_len xs
    simp only [cntS, allS, List.length_append, h1, h2]
end
/-- Are there more than may be taken? -/
def tooMany (xs : List DSel) : Bool := decide (120 < cntS xs)
theorem tooMany_cl (xs : List DSel) : tooMany xs = decide (clS xs 120 < 0) := by
  have := clS_ok xs 120; unfold tooMany; rw [decide_eq_decide]; omega
theorem tooMany_sp (xs : List DSel) : tooMany xs = decide (spS xs 120 < 0) := by
  have := spS_ok xs 120; unfold tooMany; rw [decide_eq_decide]; omega
/-- Names that are spread, behind others. -/
def sprd : List Bs → List DSel → List Bs
  | out, [] => out
  | out, x :: xs => sprd (if x.kind = 2 ∧ x.name ∉ out then out ++ [x.name] else out) xs
theorem sprd_app : ∀ {a b : List DSel} {out : List Bs}, sprd out (a ++ b) = sprd (sprd out a) b := by
  intro a; induction a with
  | nil => intro b out; simp [sprd]
  | cons x a ih => intro b out; simp [sprd, ih]
theorem sprd_take {xs : List DSel} {i : Nat} {x : DSel} {out : List Bs} (h : xs[i]? = some x) : sprd out (xs.take (i + 1)) = if x.kind = 2 ∧ x.name ∉ sprd out (xs.take i) then sprd out (xs.take i) ++ [x.name] else sprd out (xs.take i) := by
  rw [List.take_add_one, h, sprd_app]; simp [sprd]
theorem sprd_len : ∀ {xs : List DSel} {out : List Bs}, (sprd out xs).length ≤ out.length + xs.length := by
  intro xs; induction xs with
  | nil => intro out; simp [sprd]
  | cons x xs ih =>
    intro out
    simp only [sprd, List.length_cons]
    split
    · have := ih (out := out ++ [x.name]); simp at this; omega
    · have := ih (out := out); omega
theorem sprd_nodup : ∀ {xs : List DSel} {out : List Bs}, out.Nodup → (sprd out xs).Nodup := by
  intro xs; induction xs with
  | nil => intro out h; exact h
  | cons x xs ih =>
    intro out h
    simp only [sprd]
    apply ih
    split
    · next hx => rw [List.nodup_append]; exact ⟨h, by simp, fun a ha b hb => by rw [List.mem_singleton] at hb; rintro rfl; exact hx.2 (hb ▸ ha)⟩
    · exact h
def spreads (xs : List DSel) : List Bs := if tooMany xs then [] else sprd [] (allS xs)
theorem spreads_nodup (xs : List DSel) : (spreads xs).Nodup := by
  unfold spreads; split
  · exact List.nodup_nil
  · exact sprd_nodup List.nodup_nil
theorem spreads_len (xs : List DSel) : (spreads xs).length ≤ 120 := by
  unfold spreads; split
  · simp
  · next h =>
    have := sprd_len (xs := allS xs) (out := [])
    rw [allS_len] at this
    simp [tooMany] at h this ⊢; omega
theorem cnStr : ∀ {xs : List Bs}, cnR (tStrS xs) = xs.length := by
  intro xs; induction xs with
  | nil => rfl
  | cons x xs ih => simp [tStrS, cnR, cnL, cnT, ih]; omega
theorem bnd_SpreadsIn (xs : List DSel) (hs : xs.length + szR (tSelS xs) ≤ 1048576) : cnR (tStrS (spreads xs)) ≤ 1000000000 := by
  rw [cnStr]; have := spreads_len xs; omega
/-! Names that are reached. -/
section
variable (has : Bs → Bool) (sp : Bs → List Bs)
def putN (out : List Bs) : List Bs → List Bs
  | [] => out
  | n :: ns => putN (if has n = true ∧ n ∉ out then out ++ [n] else out) ns
/-- The reference's walk: from h on, among next, it ends at w. -/
inductive RS : Nat → List Bs → List Bs → Prop
  | done {h next} : h = next.length → RS h next next
  | skip {h next n w} : next[h]? = some n → has n = false → RS (h + 1) next w → RS h next w
  | go {h next n w} : next[h]? = some n → has n = true → RS (h + 1) (putN (fun _ => true) next (sp n)) w → RS h next w
/-- The program's. -/
inductive RI : Nat → List Bs → List Bs → Prop
  | done {i out} : i = out.length → RI i out out
  | go {i out n w} : out[i]? = some n → RI (i + 1) (putN has out (sp n)) w → RI i out w
end
section
variable {has : Bs → Bool} {sp : Bs → List Bs}
theorem putN_app {out a b : List Bs} : putN has out (a ++ b) = putN has (putN has out a) b := by
  induction a generalizing out with
  | nil => rfl
  | cons n a ih => simp [putN, ih]
theorem putN_take {out ns : List Bs} {i : Nat} {n : Bs} (h : ns[i]? = some n) : putN has out (ns.take (i + 1)) = if has n = true ∧ n ∉ putN has out (ns.take i) then putN has out (ns.take i) ++ [n] else putN has out (ns.take i) := by
  rw [List.take_add_one, h, putN_app]; simp [putN]
theorem putN_pre : ∀ {ns out : List Bs}, ∃ t, putN has out ns = out ++ t := by
  intro ns; induction ns with
  | nil => intro out; exact ⟨[], by simp [putN]⟩
  | cons n ns ih =>
    intro out
    obtain ⟨t, ht⟩ := ih (out := if has n = true ∧ n ∉ out then out ++ [n] else out)
    simp only [putN]; rw [ht]
    split
    · exact ⟨[n] ++ t, by simp⟩
    · exact ⟨t, rfl⟩
theorem putN_filter : ∀ {ns out : List Bs}, (putN (fun _ => true) out ns).filter has = putN has (out.filter has) ns := by
  intro ns; induction ns with
  | nil => intro out; rfl
  | cons n ns ih =>
    intro out
    simp only [putN]; rw [ih]
    congr 1
    cases hn : has n <;> by_cases hm : n ∈ out <;> simp [hn, hm]
theorem putN_nodup : ∀ {ns out : List Bs}, out.Nodup → (putN has out ns).Nodup := by
  intro ns; induction ns with
  | nil => intro out h; exact h
  | cons n ns ih =>
    intro out h
    simp only [putN]
    apply ih
    split
    · next hx => rw [List.nodup_append]; exact ⟨h, by simp, fun a ha b hb => by rw [List.mem_singleton] at hb; rintro rfl; exact hx.2 (hb ▸ ha)⟩
    · exact h
theorem putN_sub : ∀ {ns out U : List Bs}, (∀ x ∈ out, x ∈ U) → (∀ x ∈ ns, x ∈ U) → ∀ x ∈ putN has out ns, x ∈ U := by
  intro ns; induction ns with
  | nil => intro out U h _; exact h
  | cons n ns ih =>
    intro out U h1 h2
    simp only [putN]
    apply ih
    · split
      · intro x hx; rw [List.mem_append, List.mem_singleton] at hx; rcases hx with hx | rfl
        · exact h1 x hx
        · exact h2 _ List.mem_cons_self
      · exact h1
    · exact fun x hx => h2 x (List.mem_cons_of_mem _ hx)
theorem putN_new : ∀ {ns out : List Bs}, (out ++ ns).Nodup → putN (fun _ => true) out ns = out ++ ns := by
  intro ns; induction ns with
  | nil => intro out _; simp [putN]
  | cons n ns ih =>
    intro out h
    simp only [putN]
    have hn : n ∉ out := by
      rw [List.nodup_append] at h; intro hm; exact h.2.2 n hm n List.mem_cons_self rfl
    rw [if_pos ⟨trivial, hn⟩, ih (by simpa using h)]; simp
theorem RS.le {h : Nat} {next w : List Bs} (H : RS has sp h next w) : next.length ≤ w.length ∧ h ≤ next.length := by
  induction H with
  | done h => exact ⟨Nat.le_refl _, by omega⟩
  | skip h1 _ _ ih => exact ⟨ih.1, by have := (List.getElem?_eq_some_iff.1 h1).1; omega⟩
  | go h1 _ _ ih => 
    rename_i h next n w hb hr
    obtain ⟨t, ht⟩ := putN_pre (has := fun _ => true) (ns := sp n) (out := next)
    rw [ht] at ih; simp at ih
    exact ⟨by omega, by have := (List.getElem?_eq_some_iff.1 h1).1; omega⟩
theorem RI.le {h : Nat} {next w : List Bs} (H : RI has sp h next w) : next.length ≤ w.length ∧ h ≤ next.length := by
  induction H with
  | done h => exact ⟨Nat.le_refl _, by omega⟩
  | go h1 _ ih => 
    rename_i h next n w _
    obtain ⟨t, ht⟩ := putN_pre (has := has) (ns := sp n) (out := next)
    rw [ht] at ih; simp at ih
    exact ⟨by omega, by have := (List.getElem?_eq_some_iff.1 h1).1; omega⟩
theorem RS.toRI {h : Nat} {next w : List Bs} (H : RS has sp h next w) : RI has sp ((next.take h).filter has).length (next.filter has) (w.filter has) := by
  induction H with
  | done h => subst h; rw [List.take_length]; exact .done rfl
  | skip h1 h2 _ ih =>
    rw [List.take_add_one, h1, List.filter_append] at ih
    simpa [h2] using ih
  | go h1 h2 _ ih =>
    rename_i h next n w _
    obtain ⟨t, ht⟩ := putN_pre (has := fun _ => true) (ns := sp n) (out := next)
    have hlt := (List.getElem?_eq_some_iff.1 h1).1
    rw [putN_filter] at ih
    have e : ((putN (fun _ => true) next (sp n)).take (h + 1)).filter has = (next.take h).filter has ++ [n] := by
      rw [ht, List.take_append_of_le_length (by omega), List.take_add_one, h1, List.filter_append]; simp [h2]
    rw [e, List.length_append] at ih
    refine .go (n := n) ?_ ih
    have e2 : next.filter has = (next.take h).filter has ++ ([n] ++ (next.drop (h + 1)).filter has) := by
      conv => lhs; rw [← List.take_append_drop h next, List.drop_eq_getElem_cons hlt]
      have e3 : next[h] = n := (List.getElem?_eq_some_iff.1 h1).2
      rw [List.filter_append, e3]; simp [h2]
    rw [e2, List.getElem?_append_right (Nat.le_refl _)]; simp
theorem nodup_len : ∀ {l U : List Bs}, l.Nodup → (∀ x ∈ l, x ∈ U) → l.length ≤ U.length := by
  intro l; induction l with
  | nil => intro U _ _; simp
  | cons x l ih =>
    intro U hn hs
    rw [List.nodup_cons] at hn
    have hx := hs x List.mem_cons_self
    have := ih (U := U.erase x) hn.2 (fun y hy => (List.mem_erase_of_ne (by rintro rfl; exact hn.1 hy)).2 (hs y (List.mem_cons_of_mem _ hy)))
    rw [List.length_erase_of_mem hx] at this
    have := List.length_pos_of_mem hx
    simp only [List.length_cons]; omega
theorem RS.ex {U : List Bs} (hU : ∀ n, ∀ x ∈ sp n, x ∈ U) : ∀ m h (next : List Bs), next.Nodup → (∀ x ∈ next, x ∈ U) → h ≤ next.length → U.length - h ≤ m → ∃ w, RS has sp h next w ∧ w.Nodup ∧ ∀ x ∈ w, x ∈ U := by
  intro m; induction m with
  | zero =>
    intro h next hn hs hh hm
    have := nodup_len hn hs
    exact ⟨next, .done (by omega), hn, hs⟩
  | succ m ih =>
    intro h next hn hs hh hm
    have hl := nodup_len hn hs
    rcases Nat.lt_or_ge h next.length with hlt | hge
    · have hx : next[h]? = some next[h] := List.getElem?_eq_getElem hlt
      cases hb : has next[h] with
      | false => obtain ⟨w, h1, h2⟩ := ih (h + 1) next hn hs (by omega) (by omega); exact ⟨w, .skip hx hb h1, h2⟩
      | true =>
        obtain ⟨t, ht⟩ := putN_pre (has := fun _ => true) (ns := sp next[h]) (out := next)
        obtain ⟨w, h1, h2⟩ := ih (h + 1) (putN (fun _ => true) next (sp next[h])) (putN_nodup hn) (putN_sub hs (hU _)) (by rw [ht, List.length_append]; omega) (by omega)
        exact ⟨w, .go hx hb h1, h2⟩
    · exact ⟨next, .done (by omega), hn, hs⟩
end
end Go.Proofs.YthagllbnkbahnaaGreat.Abs
