/- NameChanges: sorted names, search among them, names that are gone. No condition. -/
import Derived.Test.YtcgkcbmhjbbjmaaLib
import Derived.Test.YtcgkcbmhjbbjmaaMarks
import Derived.Test.YtcgkcbmhjbbjmaaSorted
set_option linter.unusedVariables false
set_option linter.unusedSimpArgs false
namespace Go.Proofs.Ytcgkcbmhjbbjmaa.Abs
open Go
set_option maxHeartbeats 1000000
set_option maxRecDepth 100000
theorem idxOf_mem {xs : List Bs} {v : Bs} : (0 ≤ idxOf (fun x => decide (v = x)) xs 0) ↔ v ∈ xs := by
  rw [idxOf_any (by omega)]; simp
theorem c_IndexStr (xs : List Bs) (v : Bs) (K) : Ct Try.prog 128 [.sl .no xs.length (encR .no (tStrS xs)), .str v] K (.int .i64 (idxOf (fun x => decide (v = x)) xs 0)) K := by
  refine ct_fn { n0 := 6, ex := [7, 8], tk := [17] } Try.func128 rfl (by kernel_rfl) (by kernel_rfl) rfl ?_
  simp -implicitDefEqProofs [Try.f128]
  intro h1
  obtain ⟨I, hI⟩ : ∃ I : Nat → St → Prop, ∀ m s, I m s ↔ ∃ i, i ≤ xs.length ∧ m = xs.length - i ∧ idxOf (fun x => decide (v = x)) (xs.drop i) i = idxOf (fun x => decide (v = x)) xs 0 ∧
    s = { env := [(0, .sl .no xs.length (encR .no (tStrS xs))), (1, .str v), (4, .int .i64 0), (7, .int .i64 xs.length), (8, .int .i64 i)], loc := [], K := [] :: K } := ⟨_, fun _ _ => Iff.rfl⟩
  refine wC_loopI I xs.length ((hI _ _).2 ⟨0, by omega, rfl, rfl, rfl⟩) (St.le_of (by simp) (by simp) rfl rfl) ?_
  intro m s hs
  obtain ⟨i, hi, rfl, hz, rfl⟩ := (hI _ _).1 hs
  rcases Nat.lt_or_ge i xs.length with hlt | hge
  · obtain ⟨x, hx⟩ : ∃ x, xs[i]? = some x := ⟨_, List.getElem?_eq_getElem hlt⟩
    have ea := atStr (m := .no) hx
    have ed := idxOf_drop (p := fun x => decide (v = x)) hx i
    simp only [Nat.mul_one, encL, encT] at ea
    simp -implicitDefEqProofs [hlt, ea, encStrS_len]
    refine ⟨fun h => by rw [← hz, ed]; simp [h], fun h => ?_⟩
    unfold maxLen at *
    simp (disch := omega) only [wrap64]
    refine ⟨xs.length - (i + 1), by omega, _, St.le_of (by simp) (by simp [St.trunc, look, mapV, mapC, killP]) rfl (by simp [St.trunc, mapC]), (hI _ _).2 ⟨i + 1, by omega, rfl, ?_, rfl⟩⟩
    rw [← hz, ed]; simp [h]
  · have e : i = xs.length := by omega
    subst e
    simp -implicitDefEqProofs
    rw [← hz]; simp [idxOf]
theorem c_ContainsStr (xs : List Bs) (v : Bs) (K) : Ct Try.prog 74 [.sl .no xs.length (encR .no (tStrS xs)), .str v] K (.bool (decide (v ∈ xs))) K := by
  refine ct_fn { n0 := 5, ex := [], tk := [7] } Try.func74 rfl (by kernel_rfl) (by kernel_rfl) rfl ?_
  simp -implicitDefEqProofs [Try.f74]
  refine callK_of (c_IndexStr xs v _) ?_
  simp -implicitDefEqProofs
  exact idxOf_mem.symm
/-- Each of xs that is not among ys is told. -/
def told (code : Int) (owner : Bs) (ys : List Bs) (xs : List Bs) : List DChange := (xs.filter (fun x => !decide (x ∈ ys))).map (fun x => ⟨code, owner, x⟩)
theorem told_len {code : Int} {owner : Bs} {ys xs : List Bs} : (told code owner ys xs).length ≤ xs.length := by
  unfold told; rw [List.length_map]; exact List.length_filter_le _ _
theorem told_succ {code : Int} {owner : Bs} {ys xs : List Bs} {i : Nat} {x : Bs} (h : xs[i]? = some x) : told code owner ys (xs.take (i + 1)) = told code owner ys (xs.take i) ++ (if x ∈ ys then [] else [⟨code, owner, x⟩]) := by
  unfold told; rw [List.take_add_one, h, List.filter_append, List.map_append]
  by_cases hx : x ∈ ys <;> simp [hx]
def nameChanges (owner : Bs) (a b : List Bs) (gone fresh : Int) : List DChange := told gone owner b a ++ told fresh owner a b
/-- The list that a box holds. -/
def chs (l : List DChange) : AC := if l = [] then .sl .nil 0 [] else .sl (.of 124) l.length (encR .of (tChangeS l))
theorem chs_nil : chs [] = .sl .nil 0 [] := rfl
theorem chs_ne {l : List DChange} (h : l ≠ []) : chs l = .sl (.of 124) l.length (encR .of (tChangeS l)) := if_neg h
theorem chs_le {l : List DChange} : (chs l).le (.sl (.of 124) l.length (encR .of (tChangeS l))) := by
  by_cases h : l = []
  · subst h; exact .nil
  · rw [chs_ne h]; exact .refl
theorem killP_chs {n : Nat} {l : List DChange} : killP n (chs l) = chs l := by unfold chs; split <;> rfl
theorem mapC_chs {g : AC → AC} {l : List DChange} : mapC g (chs l) = chs l := by unfold chs; split <;> rfl
attribute [simp ↓] killP_chs mapC_chs
theorem c_add (l : List DChange) (b : Bool) (code : Int) (name part : Bs) (K) (hl : l.length < 100000000) :
    Ct Try.prog 73 [.ptr 0 0 0, .bool b, .int .i64 code, .str name, .str part] ([[chs l]] :: K) (.tup []) ([[chs (l ++ if b then [(⟨code, name, part⟩ : DChange)] else [])]] :: K) := by
  have hc : (encR .of (tChangeS l)).length = l.length * 3 := by rw [encR_len (k := 3) tChangeS_rows, tChangeS_len]
  cases b with
  | false =>
    simp only [Bool.false_eq_true, if_false, List.append_nil]
    refine ct_fn { n0 := 10, ex := [], tk := [15, 19, 20, 21] } Try.func73 rfl (by kernel_rfl) (by kernel_rfl) rfl ?_
    simp -implicitDefEqProofs [Try.f73]
  | true =>
    simp only [if_true]
    rw [chs_ne (l := l ++ _) (by simp)]
    by_cases h : l = []
    · subst h
      rw [chs_nil]
      refine ct_fn { n0 := 10, ex := [], tk := [15, 19, 20, 21] } Try.func73 rfl (by kernel_rfl) (by kernel_rfl) rfl ?_
      simp -implicitDefEqProofs [Try.f73]
      simp [tChangeS_map, encR_app, encR, tChange, encL, encT]
      try (unfold maxLen; omega)
    · rw [chs_ne h]
      refine ct_fn { n0 := 10, ex := [], tk := [15, 19, 20, 21] } Try.func73 rfl (by kernel_rfl) (by kernel_rfl) rfl ?_
      simp -implicitDefEqProofs [Try.f73]
      refine ⟨by unfold maxLen; omega, by omega, ?_⟩
      simp [tChangeS_map, encR_app, encR, tChange, encL, encT]
theorem told_step {code : Int} {owner : Bs} {ys xs : List Bs} {i : Nat} {x : Bs} {l : List DChange} (h : xs[i]? = some x) : (l ++ told code owner ys (xs.take i)) ++ (if (!decide (x ∈ ys)) = true then [(⟨code, owner, x⟩ : DChange)] else []) = l ++ told code owner ys (xs.take (i + 1)) := by
  rw [told_succ h, List.append_assoc]
  by_cases hx : x ∈ ys <;> simp [hx]
theorem told_nil {code : Int} {owner : Bs} {ys : List Bs} : told code owner ys [] = [] := rfl
theorem c_NameChanges (owner : Bs) (xs ys : List Bs) (gone fresh : Int) (K) (hx : xs.length ≤ 2000000) (hy : ys.length ≤ 2000000) :
    Ct Try.prog 16 [.str owner, .sl .no xs.length (encR .no (tStrS xs)), .sl .no ys.length (encR .no (tStrS ys)), .int .i64 gone, .int .i64 fresh] K
      (.sl (.of 124) (nameChanges owner xs ys gone fresh).length (encR .of (tChangeS (nameChanges owner xs ys gone fresh)))) K := by
  refine ct_fn { n0 := 16, ex := [18, 19, 20, 34, 35, 36], tk := [16, 27, 32, 43, 48, 53] } Try.func16 rfl (by kernel_rfl) (by kernel_rfl) rfl ?_
  simp -implicitDefEqProofs [Try.f16]
  intro h1
  obtain ⟨I, hI⟩ : ∃ I : Nat → St → Prop, ∀ m s, I m s ↔ ∃ i, i ≤ xs.length ∧ m = xs.length - i ∧
    s = { env := [(0, .str owner), (1, .sl .no xs.length (encR .no (tStrS xs))), (2, .sl .no ys.length (encR .no (tStrS ys))), (3, .int .i64 gone), (4, .int .i64 fresh), (11, .ptr 0 0 0), (18, .sl .no xs.length (encR .no (tStrS xs))), (19, .int .i64 xs.length), (20, .int .i64 i)],
          loc := [], K := [[chs (told gone owner ys (xs.take i))]] :: K } := ⟨_, fun _ _ => Iff.rfl⟩
  refine wC_loopI I xs.length ((hI _ _).2 ⟨0, by omega, rfl, rfl⟩) (St.le_of (by simp) (by simp) rfl rfl) ?_
  intro m s hs
  obtain ⟨i, hi, rfl, rfl⟩ := (hI _ _).1 hs
  rcases Nat.lt_or_ge i xs.length with hlt | hge
  · obtain ⟨x, hx⟩ : ∃ x, xs[i]? = some x := ⟨_, List.getElem?_eq_getElem hlt⟩
    have ea := atStr (m := .no) hx
    have est := told_step (code := gone) (owner := owner) (ys := ys) (l := []) hx
    have hb := told_len (code := gone) (owner := owner) (ys := ys) (xs := xs.take i)
    have hb2 : (xs.take i).length ≤ i := List.length_take_le _ _
    simp only [Nat.mul_one, encL, encT] at ea
    simp only [List.nil_append] at est
    simp -implicitDefEqProofs [hlt, ea, encStrS_len]
    refine callK_of (c_ContainsStr ys x _) ?_
    simp -implicitDefEqProofs
    refine callK_of (c_add (told gone owner ys (xs.take i)) (!decide (x ∈ ys)) gone owner x _ (by omega)) ?_
    rw [est]
    simp -implicitDefEqProofs
    unfold maxLen at *
    simp (disch := omega) only [wrap64]
    exact ⟨xs.length - (i + 1), by omega, _, St.le_of (by simp) (by simp [St.trunc, look, mapV, mapC, killP]) rfl (by simp [St.trunc, mapC]), (hI _ _).2 ⟨i + 1, by omega, rfl, rfl⟩⟩
  · have e : i = xs.length := by omega
    subst e
    rw [List.take_of_length_le (Nat.le_refl _)]
    simp -implicitDefEqProofs
    intro h2
    obtain ⟨J, hJ⟩ : ∃ I : Nat → St → Prop, ∀ m s, I m s ↔ ∃ i, i ≤ ys.length ∧ m = ys.length - i ∧
      s = { env := [(0, .str owner), (1, .sl .no xs.length (encR .no (tStrS xs))), (2, .sl .no ys.length (encR .no (tStrS ys))), (3, .int .i64 gone), (4, .int .i64 fresh), (11, .ptr 0 0 0), (34, .sl .no ys.length (encR .no (tStrS ys))), (35, .int .i64 ys.length), (36, .int .i64 i)],
            loc := [], K := [[chs (told gone owner ys xs ++ told fresh owner xs (ys.take i))]] :: K } := ⟨_, fun _ _ => Iff.rfl⟩
    refine wC_loopI J ys.length ((hJ _ _).2 ⟨0, by omega, rfl, rfl⟩) (St.le_of (by simp) (by simp) rfl (by simp [told_nil])) ?_
    intro m s hs
    obtain ⟨i, hi, rfl, rfl⟩ := (hJ _ _).1 hs
    have hb := told_len (code := gone) (owner := owner) (ys := ys) (xs := xs)
    rcases Nat.lt_or_ge i ys.length with hlt | hge
    · obtain ⟨x, hx2⟩ : ∃ x, ys[i]? = some x := ⟨_, List.getElem?_eq_getElem hlt⟩
      have ea := atStr (m := .no) hx2
      have est := told_step (code := fresh) (owner := owner) (ys := xs) (l := told gone owner ys xs) hx2
      have hb3 := told_len (code := fresh) (owner := owner) (ys := xs) (xs := ys.take i)
      have hb2 : (ys.take i).length ≤ i := List.length_take_le _ _
      simp only [Nat.mul_one, encL, encT] at ea
      simp -implicitDefEqProofs [hlt, ea, encStrS_len]
      refine callK_of (c_ContainsStr xs x _) ?_
      simp -implicitDefEqProofs
      refine callK_of (c_add (told gone owner ys xs ++ told fresh owner xs (ys.take i)) (!decide (x ∈ xs)) fresh owner x _ (by rw [List.length_append]; omega)) ?_
      rw [est]
      simp -implicitDefEqProofs
      unfold maxLen at *
      simp (disch := omega) only [wrap64]
      exact ⟨ys.length - (i + 1), by omega, _, St.le_of (by simp) (by simp [St.trunc, look, mapV, mapC, killP]) rfl (by simp [St.trunc, mapC]), (hJ _ _).2 ⟨i + 1, by omega, rfl, rfl⟩⟩
    · have e : i = ys.length := by omega
      subst e
      rw [List.take_of_length_le (Nat.le_refl _)]
      unfold nameChanges
      generalize told gone owner ys xs ++ told fresh owner xs ys = l at *
      by_cases hn : l = []
      · subst hn
        rw [chs_nil]
        simp -implicitDefEqProofs [tChangeS, encR]
      · rw [chs_ne hn]
        simp -implicitDefEqProofs
theorem encStr {m : Md} : ∀ {xs : List Bs}, encR m (tStrS xs) = xs.map AC.str := by
  intro xs; induction xs with
  | nil => rfl
  | cons x xs ih => simp [tStrS, encR, encL, encT, ih]
theorem c_l31In (xs : List Bs) (v : Bs) (K) (hs : Strict xs) (hb : xs.length ≤ 2000000) : Ct Try.prog 72 [.sl .no xs.length (encR .no (tStrS xs)), .str v] K (.bool (decide (v ∈ xs))) K := by
  generalize hr : decide (v ∈ xs) = r
  refine ct_fn { n0 := 8, ex := [], tk := [] } Try.func72 rfl (by kernel_rfl) (by kernel_rfl) rfl ?_
  simp -implicitDefEqProofs [Try.f72]
  intro h1
  obtain ⟨I, hI⟩ : ∃ I : Nat → St → Prop, ∀ m s, I m s ↔ ∃ lo hi : Nat, lo ≤ hi ∧ hi ≤ xs.length ∧ m = hi - lo ∧ (∀ (j : Nat) (x : Bs), xs[j]? = some x → j < lo → blt x v) ∧ (∀ (j : Nat) (x : Bs), xs[j]? = some x → hi ≤ j → ¬ blt x v) ∧
    s = { env := [(0, .sl .no xs.length (encR .no (tStrS xs))), (1, .str v), (4, .bool false), (5, .int .i64 lo), (6, .int .i64 hi)], loc := [], K := [] :: K } := ⟨_, fun _ _ => Iff.rfl⟩
  refine wC_loopI I xs.length ((hI _ _).2 ⟨0, xs.length, by omega, by omega, by omega, fun j x _ h => by omega, fun j x hx h => by have := (List.getElem?_eq_some_iff.1 hx).1; omega, rfl⟩) (St.le_of (by simp) (by simp) rfl rfl) ?_
  intro m s hs'
  obtain ⟨lo, hi, hle, hhi, rfl, hlo, hup, rfl⟩ := (hI _ _).1 hs'
  rcases Nat.lt_or_ge lo hi with hlt | hge
  · have e1 : ((lo : Int) + hi).tdiv 2 = ((lo + hi) / 2 : Nat) := by
      rw [Int.tdiv_eq_ediv_of_nonneg (by omega)]; omega
    have hm1 : lo ≤ (lo + hi) / 2 ∧ (lo + hi) / 2 < hi := by omega
    generalize (lo + hi) / 2 = mid at *
    obtain ⟨x, hx⟩ : ∃ x, xs[mid]? = some x := ⟨_, List.getElem?_eq_getElem (by omega)⟩
    have ea := atStr (m := .no) hx
    simp only [Nat.mul_one, encL, encT] at ea
    have w1 : IntKind.i64.wrap ((lo : Int) + hi) = lo + hi := wrap64 (by omega) (by omega)
    have w2 : IntKind.i64.wrap (mid : Int) = mid := wrap64 (by omega) (by omega)
    simp -implicitDefEqProofs [hlt, w1, e1, w2, ea, encStrS_len]
    refine ⟨by omega, fun h => ?_, fun h => ?_⟩
    · simp (disch := omega) only [wrap64]
      refine ⟨hi - (mid + 1), by omega, _, St.le_of (by simp) (by simp [St.trunc, look, mapV, mapC, killP]) rfl (by simp [St.trunc, mapC]), (hI _ _).2 ⟨mid + 1, hi, by omega, hhi, rfl, fun j y hy hj => ?_, hup, rfl⟩⟩
      rcases Nat.lt_or_ge j mid with h5 | h5
      · have hjl := (List.getElem?_eq_some_iff.1 hy).1
        have h6 := List.pairwise_iff_getElem.1 hs j mid hjl (by omega) h5
        rw [(List.getElem?_eq_some_iff.1 hy).2, (List.getElem?_eq_some_iff.1 hx).2] at h6
        exact bl_trans _ _ _ h6 h
      · obtain rfl : j = mid := by omega
        rw [hx] at hy; cases hy; exact h
    · refine ⟨mid - lo, by omega, _, St.le_of (by simp) (by simp [St.trunc, look, mapV, mapC, killP]) rfl (by simp [St.trunc, mapC]), (hI _ _).2 ⟨lo, mid, by omega, by omega, rfl, hlo, fun j y hy hj => ?_, rfl⟩⟩
      rcases Nat.lt_or_ge mid j with h5 | h5
      · have hjl := (List.getElem?_eq_some_iff.1 hy).1
        have h6 := List.pairwise_iff_getElem.1 hs mid j (by omega) hjl h5
        rw [(List.getElem?_eq_some_iff.1 hy).2, (List.getElem?_eq_some_iff.1 hx).2] at h6
        intro h7
        have := bl_trans _ _ _ h6 h7
        rw [h] at this; cases this
      · obtain rfl : j = mid := by omega
        rw [hx] at hy; cases hy; intro h7; rw [blt, h] at h7; cases h7
  · have e : lo = hi := by omega
    subst e
    have hsm := search_mem hs hlo hup
    rcases Nat.lt_or_ge lo xs.length with hl2 | hl2
    · obtain ⟨x, hx⟩ : ∃ x, xs[lo]? = some x := ⟨_, List.getElem?_eq_getElem (by omega)⟩
      have ea := atStr (m := .no) hx
      simp only [Nat.mul_one, encL, encT] at ea
      simp -implicitDefEqProofs [hl2, ea, encStrS_len]
      intro _
      rw [← hr]
      simp only [decide_eq_decide]
      rw [hsm, hx]; simp
    · have hd : List.drop lo (xs.map AC.str) = [] := List.drop_of_length_le (by simp; omega)
      simp -implicitDefEqProofs [Nat.not_lt.2 hl2, encStrS_len, encStr, hd]
      intro _
      rw [← hr]; simp only [decide_eq_false_iff_not]
      rw [hsm, List.getElem?_eq_none hl2]; simp
theorem c_l18Sorted : ∀ (n : Nat) (xs : List Bs) (K : List (List (List AC))), xs.length ≤ n → n ≤ 2000000 → Ct Try.prog 71 [.sl .no xs.length (encR .no (tStrS xs))] K (.sl (.of 9) (sortU xs).length (encR .of (tStrS (sortU xs)))) K := by
  intro n
  induction n with
  | zero =>
    intro xs K hn hb
    obtain rfl : xs = [] := List.eq_nil_of_length_eq_zero (by omega)
    have e : sortU [] = [] := by rw [sortU]; simp
    rw [e]
    refine ct_fn { n0 := 9, ex := [], tk := [12, 14, 20, 26, 27, 84, 86, 87, 88] } Try.func71 rfl (by kernel_rfl) (by kernel_rfl) rfl ?_
    simp -implicitDefEqProofs [Try.f71, tStrS, encR]
    try (unfold maxLen; omega)
  | succ n ih =>
  intro xs K hn hb
  generalize hr : sortU xs = r
  refine ct_fn { n0 := 9, ex := [], tk := [12, 14, 20, 26, 27, 84, 86, 87, 88] } Try.func71 rfl (by kernel_rfl) (by kernel_rfl) rfl ?_
  simp -implicitDefEqProofs [Try.f71]
  intro h1
  refine ⟨fun h => ⟨h1, by omega, by simp [encStr], ?_⟩, fun h h2 => ?_⟩
  · rw [← hr, sortU, dif_pos (by omega)]; simp [encStr]
  · rw [sortU, dif_neg (by omega)] at hr
    obtain ⟨hf, hhf⟩ : ∃ hf, hf = xs.length / 2 := ⟨_, rfl⟩
    rw [← hhf] at hr
    have e1 : ((xs.length : Int) / 2) = hf := by omega
    have hf1 : 1 ≤ hf ∧ hf < xs.length := by omega
    clear hhf
    have w1 : IntKind.i64.wrap (hf : Int) = hf := wrap64 (by omega) (by omega)
    have nA : (xs.take hf).length = hf := by simp; omega
    have nB : (xs.drop hf).length = xs.length - hf := by simp
    have hA := ih (xs.take hf) ([] :: K) (by omega) (by omega)
    have hB := ih (xs.drop hf) ([] :: K) (by omega) (by omega)
    have lA := sortU_len _ (xs.take hf) (Nat.le_refl _)
    have lB := sortU_len _ (xs.drop hf) (Nat.le_refl _)
    have tA : (encR .no (tStrS xs)).take hf = encR .no (tStrS (xs.take hf)) := by simp [encStr]
    have tB : ((encR .no (tStrS xs)).take xs.length).drop hf = encR .no (tStrS (xs.drop hf)) := by
      rw [List.take_of_length_le (by simp [encStr])]; simp [encStr]
    rw [nA] at hA lA
    rw [nB] at hB lB
    generalize sortU (xs.take hf) = A at *
    generalize sortU (xs.drop hf) = B at *
    rw [e1, w1]
    refine ⟨⟨by omega, by omega⟩, ?_⟩
    simp only [Int.toNat_natCast, tA]
    refine callK_of hA ?_
    simp -implicitDefEqProofs [e1, w1, tB]
    intro h3
    refine ⟨by omega, ?_⟩
    refine callK_of hB ?_
    simp -implicitDefEqProofs
    obtain ⟨I, hI⟩ : ∃ I : Nat → St → Prop, ∀ m s, I m s ↔ ∃ (i k : Nat) (out : List Bs), i ≤ A.length ∧ k ≤ B.length ∧ m = A.length - i + (B.length - k) ∧ out.length ≤ i + k ∧ mergeU (A.drop i) (B.drop k) out = r ∧
      s = { env := [(0, .sl .no xs.length (encR .no (tStrS xs))), (3, .sl (.of 9) A.length (encR .of (tStrS A))), (4, .sl (.of 9) B.length (encR .of (tStrS B))), (5, .sl (.of 9) out.length (encR .of (tStrS out))), (6, .int .i64 i), (7, .int .i64 k)], loc := [], K := [] :: K } := ⟨_, fun _ _ => Iff.rfl⟩
    refine wC_loopI I (A.length + B.length) ((hI _ _).2 ⟨0, 0, [], by omega, by omega, by omega, by simp, by simpa using hr, rfl⟩) (St.le_of (by simp) (by simp [encStr]) rfl rfl) ?_
    intro m s hs
    obtain ⟨i, k, out, hi, hk, rfl, hol, hz, rfl⟩ := (hI _ _).1 hs
    clear hs hA hB ih
    rcases Nat.lt_or_ge i A.length with hli | hgi
    · obtain ⟨x, hx⟩ : ∃ x, A[i]? = some x := ⟨_, List.getElem?_eq_getElem hli⟩
      have ea := atStr (m := .no) hx
      simp only [Nat.mul_one, encL, encT] at ea
      rcases Nat.lt_or_ge k B.length with hlk | hgk
      · obtain ⟨y, hy⟩ : ∃ y, B[k]? = some y := ⟨_, List.getElem?_eq_getElem hlk⟩
        have eb := atStr (m := .no) hy
        simp only [Nat.mul_one, encL, encT] at eb
        rcases List.eq_nil_or_concat out with rfl | ⟨L, l, rfl⟩
        · have hm1 : 1 ≤ maxLen := by unfold maxLen; omega
          simp -implicitDefEqProofs [hli, hlk, ea, eb, encStrS_len]
          intros
          refine wRun_draw true rfl (by decide +kernel) ?_
          simp -implicitDefEqProofs [hli, hlk, ea, eb, encStrS_len, tStrS, encR, hm1]
          refine ⟨fun hc => ?_, fun hc hc2 => ?_⟩
          · have hz1 := hz
            rw [merge_a hx (fun y2 hy2 => by rw [hy] at hy2; cases hy2; rcases hc with h7 | h7 | h7 <;> first | omega | simp [h7]), push_nil] at hz1
            unfold maxLen at *
            simp (disch := omega) only [wrap64]
            exact ⟨A.length - (i + 1) + (B.length - (k)), by omega, _, St.le_of (by simp) (by simp [St.trunc, look, mapV, mapC, killP, encStr]) rfl (by simp [St.trunc, mapC]), (hI _ _).2 ⟨i + 1, k, [x], by omega, by omega, rfl, by simp at hol ⊢; omega, hz1, rfl⟩⟩
          · have hz1 := hz
            rw [merge_b hy (fun x2 hx2 => by rw [hx] at hx2; cases hx2; simp [hc, hc2]), push_nil] at hz1
            unfold maxLen at *
            simp (disch := omega) only [wrap64]
            exact ⟨A.length - (i) + (B.length - (k + 1)), by omega, _, St.le_of (by simp) (by simp [St.trunc, look, mapV, mapC, killP, encStr]) rfl (by simp [St.trunc, mapC]), (hI _ _).2 ⟨i, k + 1, [y], by omega, by omega, rfl, by simp at hol ⊢; omega, hz1, rfl⟩⟩
        · simp only [List.concat_eq_append] at hol hz ⊢
          have wl : IntKind.i64.wrap (L.length : Int) = L.length := wrap64 (by omega) (by simp at hol; omega)
          have el : ((encR .no (tStrS (L ++ [l]))).drop L.length).take 1 = [.str l] := by simp [encStr]
          have hnz : ¬ ((L.length : Int) + 1 = 0) := by omega
          have hml : L.length + 1 ≤ maxLen := by unfold maxLen; simp at hol; omega
          have hml2 : L.length + 1 + 1 ≤ maxLen := by unfold maxLen; simp at hol; omega
          have hml3 : (L.length + 1 + 1) * 16 ≤ 140737488355328 := by simp at hol; omega
          simp -implicitDefEqProofs [hli, hlk, ea, eb, encStrS_len]
          intros
          refine wRun_draw true rfl (by decide +kernel) ?_
          simp -implicitDefEqProofs [hli, hlk, ea, eb, encStrS_len, wl, el, hnz, hml, hml2, hml3]
          refine ⟨fun hc => ?_, fun hc hc2 => ?_⟩
          · refine ⟨by omega, fun hl => ?_, fun hl => ?_⟩
            · have hz1 := hz
              rw [merge_a hx (fun y2 hy2 => by rw [hy] at hy2; cases hy2; rcases hc with h7 | h7 | h7 <;> first | omega | simp [h7]), push_ne hl] at hz1
              unfold maxLen at *
              simp (disch := omega) only [wrap64]
              exact ⟨A.length - (i + 1) + (B.length - (k)), by omega, _, St.le_of (by simp) (by simp [St.trunc, look, mapV, mapC, killP, encStr]) rfl (by simp [St.trunc, mapC]), (hI _ _).2 ⟨i + 1, k, L ++ [l] ++ [x], by omega, by omega, rfl, by simp at hol ⊢; omega, hz1, rfl⟩⟩
            · have hz1 := hz
              rw [merge_a hx (fun y2 hy2 => by rw [hy] at hy2; cases hy2; rcases hc with h7 | h7 | h7 <;> first | omega | simp [h7]), push_eq hl] at hz1
              unfold maxLen at *
              simp (disch := omega) only [wrap64]
              exact ⟨A.length - (i + 1) + (B.length - (k)), by omega, _, St.le_of (by simp) (by simp [St.trunc, look, mapV, mapC, killP, encStr]) rfl (by simp [St.trunc, mapC]), (hI _ _).2 ⟨i + 1, k, L ++ [l], by omega, by omega, rfl, by simp at hol ⊢; omega, hz1, rfl⟩⟩
          · refine ⟨by omega, fun hl => ?_, fun hl => ?_⟩
            · have hz1 := hz
              rw [merge_b hy (fun x2 hx2 => by rw [hx] at hx2; cases hx2; simp [hc, hc2]), push_ne hl] at hz1
              unfold maxLen at *
              simp (disch := omega) only [wrap64]
              exact ⟨A.length - (i) + (B.length - (k + 1)), by omega, _, St.le_of (by simp) (by simp [St.trunc, look, mapV, mapC, killP, encStr]) rfl (by simp [St.trunc, mapC]), (hI _ _).2 ⟨i, k + 1, L ++ [l] ++ [y], by omega, by omega, rfl, by simp at hol ⊢; omega, hz1, rfl⟩⟩
            · have hz1 := hz
              rw [merge_b hy (fun x2 hx2 => by rw [hx] at hx2; cases hx2; simp [hc, hc2]), push_eq hl] at hz1
              unfold maxLen at *
              simp (disch := omega) only [wrap64]
              exact ⟨A.length - (i) + (B.length - (k + 1)), by omega, _, St.le_of (by simp) (by simp [St.trunc, look, mapV, mapC, killP, encStr]) rfl (by simp [St.trunc, mapC]), (hI _ _).2 ⟨i, k + 1, L ++ [l], by omega, by omega, rfl, by simp at hol ⊢; omega, hz1, rfl⟩⟩
      · have e : k = B.length := by omega
        subst e
        have hd : (encR .no (tStrS B)).drop B.length = [] := List.drop_of_length_le (by simp [encStr])
        rcases List.eq_nil_or_concat out with rfl | ⟨L, l, rfl⟩
        · have hm1 : 1 ≤ maxLen := by unfold maxLen; omega
          simp -implicitDefEqProofs [hli, ea, encStrS_len, hd]
          intros
          refine wRun_draw true rfl (by decide +kernel) ?_
          simp -implicitDefEqProofs [hli, ea, encStrS_len, hd, tStrS, encR, hm1]
          have hz1 := hz
          rw [merge_a hx (fun y2 hy2 => by have := (List.getElem?_eq_some_iff.1 hy2).1; omega), push_nil] at hz1
          unfold maxLen at *
          simp (disch := omega) only [wrap64]
          exact ⟨A.length - (i + 1) + (B.length - (B.length)), by omega, _, St.le_of (by simp) (by simp [St.trunc, look, mapV, mapC, killP, encStr]) rfl (by simp [St.trunc, mapC]), (hI _ _).2 ⟨i + 1, B.length, [x], by omega, by omega, rfl, by simp at hol ⊢; omega, hz1, rfl⟩⟩
        · simp only [List.concat_eq_append] at hol hz ⊢
          have wl : IntKind.i64.wrap (L.length : Int) = L.length := wrap64 (by omega) (by simp at hol; omega)
          have el : ((encR .no (tStrS (L ++ [l]))).drop L.length).take 1 = [.str l] := by simp [encStr]
          have hnz : ¬ ((L.length : Int) + 1 = 0) := by omega
          have hml : L.length + 1 ≤ maxLen := by unfold maxLen; simp at hol; omega
          have hml2 : L.length + 1 + 1 ≤ maxLen := by unfold maxLen; simp at hol; omega
          have hml3 : (L.length + 1 + 1) * 16 ≤ 140737488355328 := by simp at hol; omega
          simp -implicitDefEqProofs [hli, ea, encStrS_len, hd]
          intros
          refine wRun_draw true rfl (by decide +kernel) ?_
          simp -implicitDefEqProofs [hli, ea, encStrS_len, hd, wl, el, hnz, hml, hml2, hml3]
          refine ⟨by omega, fun hl => ?_, fun hl => ?_⟩
          · have hz1 := hz
            rw [merge_a hx (fun y2 hy2 => by have := (List.getElem?_eq_some_iff.1 hy2).1; omega), push_ne hl] at hz1
            unfold maxLen at *
            simp (disch := omega) only [wrap64]
            exact ⟨A.length - (i + 1) + (B.length - (B.length)), by omega, _, St.le_of (by simp) (by simp [St.trunc, look, mapV, mapC, killP, encStr]) rfl (by simp [St.trunc, mapC]), (hI _ _).2 ⟨i + 1, B.length, L ++ [l] ++ [x], by omega, by omega, rfl, by simp at hol ⊢; omega, hz1, rfl⟩⟩
          · have hz1 := hz
            rw [merge_a hx (fun y2 hy2 => by have := (List.getElem?_eq_some_iff.1 hy2).1; omega), push_eq hl] at hz1
            unfold maxLen at *
            simp (disch := omega) only [wrap64]
            exact ⟨A.length - (i + 1) + (B.length - (B.length)), by omega, _, St.le_of (by simp) (by simp [St.trunc, look, mapV, mapC, killP, encStr]) rfl (by simp [St.trunc, mapC]), (hI _ _).2 ⟨i + 1, B.length, L ++ [l], by omega, by omega, rfl, by simp at hol ⊢; omega, hz1, rfl⟩⟩
    · have e : i = A.length := by omega
      subst e
      rcases Nat.lt_or_ge k B.length with hlk | hgk
      · obtain ⟨y, hy⟩ : ∃ y, B[k]? = some y := ⟨_, List.getElem?_eq_getElem hlk⟩
        have eb := atStr (m := .no) hy
        simp only [Nat.mul_one, encL, encT] at eb
        have hd : (encR .no (tStrS A)).drop A.length = [] := List.drop_of_length_le (by simp [encStr])
        rcases List.eq_nil_or_concat out with rfl | ⟨L, l, rfl⟩
        · have hm1 : 1 ≤ maxLen := by unfold maxLen; omega
          simp -implicitDefEqProofs [hlk, eb, encStrS_len, hd]
          intros
          refine wRun_draw true rfl (by decide +kernel) ?_
          simp -implicitDefEqProofs [hlk, eb, encStrS_len, hd, tStrS, encR, hm1]
          have hz1 := hz
          rw [merge_b hy (fun y2 hy2 => by have := (List.getElem?_eq_some_iff.1 hy2).1; omega), push_nil] at hz1
          unfold maxLen at *
          simp (disch := omega) only [wrap64]
          exact ⟨A.length - (A.length) + (B.length - (k + 1)), by omega, _, St.le_of (by simp) (by simp [St.trunc, look, mapV, mapC, killP, encStr]) rfl (by simp [St.trunc, mapC]), (hI _ _).2 ⟨A.length, k + 1, [y], by omega, by omega, rfl, by simp at hol ⊢; omega, hz1, rfl⟩⟩
        · simp only [List.concat_eq_append] at hol hz ⊢
          have wl : IntKind.i64.wrap (L.length : Int) = L.length := wrap64 (by omega) (by simp at hol; omega)
          have el : ((encR .no (tStrS (L ++ [l]))).drop L.length).take 1 = [.str l] := by simp [encStr]
          have hnz : ¬ ((L.length : Int) + 1 = 0) := by omega
          have hml : L.length + 1 ≤ maxLen := by unfold maxLen; simp at hol; omega
          have hml2 : L.length + 1 + 1 ≤ maxLen := by unfold maxLen; simp at hol; omega
          have hml3 : (L.length + 1 + 1) * 16 ≤ 140737488355328 := by simp at hol; omega
          simp -implicitDefEqProofs [hlk, eb, encStrS_len, hd]
          intros
          refine wRun_draw true rfl (by decide +kernel) ?_
          simp -implicitDefEqProofs [hlk, eb, encStrS_len, hd, wl, el, hnz, hml, hml2, hml3]
          refine ⟨by omega, fun hl => ?_, fun hl => ?_⟩
          · have hz1 := hz
            rw [merge_b hy (fun y2 hy2 => by have := (List.getElem?_eq_some_iff.1 hy2).1; omega), push_ne hl] at hz1
            unfold maxLen at *
            simp (disch := omega) only [wrap64]
            exact ⟨A.length - (A.length) + (B.length - (k + 1)), by omega, _, St.le_of (by simp) (by simp [St.trunc, look, mapV, mapC, killP, encStr]) rfl (by simp [St.trunc, mapC]), (hI _ _).2 ⟨A.length, k + 1, L ++ [l] ++ [y], by omega, by omega, rfl, by simp at hol ⊢; omega, hz1, rfl⟩⟩
          · have hz1 := hz
            rw [merge_b hy (fun y2 hy2 => by have := (List.getElem?_eq_some_iff.1 hy2).1; omega), push_eq hl] at hz1
            unfold maxLen at *
            simp (disch := omega) only [wrap64]
            exact ⟨A.length - (A.length) + (B.length - (k + 1)), by omega, _, St.le_of (by simp) (by simp [St.trunc, look, mapV, mapC, killP, encStr]) rfl (by simp [St.trunc, mapC]), (hI _ _).2 ⟨A.length, k + 1, L ++ [l], by omega, by omega, rfl, by simp at hol ⊢; omega, hz1, rfl⟩⟩
      · have e : k = B.length := by omega
        subst e
        simp -implicitDefEqProofs
        intros
        rw [List.drop_of_length_le (Nat.le_refl _), List.drop_of_length_le (Nat.le_refl _), mergeU] at hz
        subst hz; exact .refl
theorem c_NameChangesS (owner : Bs) (xs ys : List Bs) (gone fresh : Int) (K) (hx : xs.length ≤ 2000000) (hy : ys.length ≤ 2000000) :
    Ct Try.prog 14 [.str owner, .sl .no xs.length (encR .no (tStrS xs)), .sl .no ys.length (encR .no (tStrS ys)), .int .i64 gone, .int .i64 fresh] K
      (.sl (.of 124) (nameChanges owner xs ys gone fresh).length (encR .of (tChangeS (nameChanges owner xs ys gone fresh)))) K := by
  generalize hr : nameChanges owner xs ys gone fresh = r
  have hX := sortU_ok _ xs (Nat.le_refl _)
  have hY := sortU_ok _ ys (Nat.le_refl _)
  have lX := sortU_len _ xs (Nat.le_refl _)
  have lY := sortU_len _ ys (Nat.le_refl _)
  have cX := fun K => c_l18Sorted _ xs K (Nat.le_refl _) hx
  have cY := fun K => c_l18Sorted _ ys K (Nat.le_refl _) hy
  generalize sortU xs = X at *
  generalize sortU ys = Y at *
  refine ct_fn { n0 := 16, ex := [], tk := [16, 18, 20, 32, 34, 41, 42, 43, 55, 57, 64, 65, 66, 67] } Try.func14 rfl (by kernel_rfl) (by kernel_rfl) rfl ?_
  simp -implicitDefEqProofs [Try.f14]
  refine callK_of (cX _) ?_
  simp -implicitDefEqProofs
  refine callK_of (cY _) ?_
  simp -implicitDefEqProofs
  obtain ⟨I, hI⟩ : ∃ I : Nat → St → Prop, ∀ m s, I m s ↔ ∃ (i : Nat) (out : List DChange), i ≤ xs.length ∧ m = xs.length - i ∧ out = told gone owner ys (xs.take i) ∧
    s = { env := [(0, .str owner), (1, .sl .no xs.length (encR .no (tStrS xs))), (2, .sl .no ys.length (encR .no (tStrS ys))), (3, .int .i64 gone), (4, .int .i64 fresh), (11, .sl (.of 124) out.length (encR .of (tChangeS out))), (12, .sl (.of 9) X.length (encR .of (tStrS X))), (13, .sl (.of 9) Y.length (encR .of (tStrS Y))), (14, .int .i64 i)],
          loc := [], K := [] :: K } := ⟨_, fun _ _ => Iff.rfl⟩
  refine wC_loopI I xs.length ((hI _ _).2 ⟨0, [], by omega, by omega, rfl, rfl⟩) (St.le_of (by simp) (by simp [tChangeS, encR]) rfl rfl) ?_
  intro m s hs
  obtain ⟨i, out, hi, rfl, ho, rfl⟩ := (hI _ _).1 hs
  clear hs
  have hb := told_len (code := gone) (owner := owner) (ys := ys) (xs := xs.take i)
  have hb2 : (xs.take i).length ≤ i := List.length_take_le _ _
  rw [← ho] at hb
  have hc : (encR .of (tChangeS out)).length = out.length * 3 := by rw [encR_len (k := 3) tChangeS_rows, tChangeS_len]
  rcases Nat.lt_or_ge i xs.length with hlt | hge
  · obtain ⟨x, hx⟩ : ∃ x, xs[i]? = some x := ⟨_, List.getElem?_eq_getElem hlt⟩
    have ea := atStr (m := .no) hx
    have est := told_step (code := gone) (owner := owner) (ys := ys) (l := []) hx
    simp only [Nat.mul_one, encL, encT] at ea
    simp only [List.nil_append] at est
    rw [← ho] at est
    simp -implicitDefEqProofs [hlt, ea, encStrS_len]
    intro hm
    refine callK_of (c_l31In Y x _ hY.1 (by omega)) ?_
    simp -implicitDefEqProofs [hY.2, hlt, ea, encStrS_len]
    refine ⟨fun h => ?_, fun h => ?_⟩
    · rw [if_pos (by simp [h])] at est
      refine ⟨by unfold maxLen; omega, by omega, ?_⟩
      unfold maxLen at *
      simp (disch := omega) only [wrap64]
      exact ⟨xs.length - (i + 1), by omega, _, St.le_of (by simp) (by simp [St.trunc, look, mapV, mapC, killP, tChangeS_map, encR_app, encR, tChange, encL, encT]) rfl (by simp [St.trunc, mapC]), (hI _ _).2 ⟨i + 1, out ++ [⟨gone, owner, x⟩], by omega, rfl, est, rfl⟩⟩
    · rw [if_neg (by simp [h]), List.append_nil] at est
      unfold maxLen at *
      simp (disch := omega) only [wrap64]
      exact ⟨xs.length - (i + 1), by omega, _, St.le_of (by simp) (by simp [St.trunc, look, mapV, mapC, killP]) rfl (by simp [St.trunc, mapC]), (hI _ _).2 ⟨i + 1, out, by omega, rfl, est, rfl⟩⟩
  · have e : i = xs.length := by omega
    subst e
    rw [List.take_of_length_le (Nat.le_refl _)] at ho
    simp -implicitDefEqProofs
    intro hm0
    obtain ⟨J, hJ⟩ : ∃ I : Nat → St → Prop, ∀ m s, I m s ↔ ∃ (i : Nat) (o2 : List DChange), i ≤ ys.length ∧ m = ys.length - i ∧ o2 = out ++ told fresh owner xs (ys.take i) ∧
      s = { env := [(0, .str owner), (1, .sl .no xs.length (encR .no (tStrS xs))), (2, .sl .no ys.length (encR .no (tStrS ys))), (3, .int .i64 gone), (4, .int .i64 fresh), (11, .sl (.of 124) o2.length (encR .of (tChangeS o2))), (12, .sl (.of 9) X.length (encR .of (tStrS X))), (13, .sl (.of 9) Y.length (encR .of (tStrS Y))), (15, .int .i64 i)],
            loc := [], K := [] :: K } := ⟨_, fun _ _ => Iff.rfl⟩
    refine wC_loopI J ys.length ((hJ _ _).2 ⟨0, out, by omega, by omega, by simp [told_nil], rfl⟩) (St.le_of (by simp) (by simp) rfl rfl) ?_
    intro m s hs
    obtain ⟨i, o2, hi, rfl, ho2, rfl⟩ := (hJ _ _).1 hs
    clear hs
    have hb3 := told_len (code := fresh) (owner := owner) (ys := xs) (xs := ys.take i)
    have hb4 : (ys.take i).length ≤ i := List.length_take_le _ _
    have hb5 : o2.length = out.length + (told fresh owner xs (ys.take i)).length := by rw [ho2, List.length_append]
    have hc2 : (encR .of (tChangeS o2)).length = o2.length * 3 := by rw [encR_len (k := 3) tChangeS_rows, tChangeS_len]
    rcases Nat.lt_or_ge i ys.length with hlt | hge
    · obtain ⟨x, hx2⟩ : ∃ x, ys[i]? = some x := ⟨_, List.getElem?_eq_getElem hlt⟩
      have ea := atStr (m := .no) hx2
      have est := told_step (code := fresh) (owner := owner) (ys := xs) (l := out) hx2
      simp only [Nat.mul_one, encL, encT] at ea
      rw [← ho2] at est
      simp -implicitDefEqProofs [hlt, ea, encStrS_len]
      intro hm
      refine callK_of (c_l31In X x _ hX.1 (by omega)) ?_
      simp -implicitDefEqProofs [hX.2, hlt, ea, encStrS_len]
      refine ⟨fun h => ?_, fun h => ?_⟩
      · rw [if_pos (by simp [h])] at est
        refine ⟨by unfold maxLen; omega, by omega, ?_⟩
        unfold maxLen at *
        simp (disch := omega) only [wrap64]
        exact ⟨ys.length - (i + 1), by omega, _, St.le_of (by simp) (by simp [St.trunc, look, mapV, mapC, killP, tChangeS_map, encR_app, encR, tChange, encL, encT]) rfl (by simp [St.trunc, mapC]), (hJ _ _).2 ⟨i + 1, o2 ++ [⟨fresh, owner, x⟩], by omega, rfl, est, rfl⟩⟩
      · rw [if_neg (by simp [h]), List.append_nil] at est
        unfold maxLen at *
        simp (disch := omega) only [wrap64]
        exact ⟨ys.length - (i + 1), by omega, _, St.le_of (by simp) (by simp [St.trunc, look, mapV, mapC, killP]) rfl (by simp [St.trunc, mapC]), (hJ _ _).2 ⟨i + 1, o2, by omega, rfl, est, rfl⟩⟩
    · have e : i = ys.length := by omega
      subst e
      rw [List.take_of_length_le (Nat.le_refl _)] at ho2
      simp -implicitDefEqProofs
      intro hm
      rw [← hr]; unfold nameChanges; rw [← ho, ← ho2]; exact .refl
end Go.Proofs.Ytcgkcbmhjbbjmaa.Abs
