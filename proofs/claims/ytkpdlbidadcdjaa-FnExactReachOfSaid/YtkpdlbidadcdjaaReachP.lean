/- What can be reached: the plain law. No condition. -/
import Derived.Test.YtkpdlbidadcdjaaSort
import Derived.Test.YtkpdlbidadcdjaaFragAt
import Derived.Test.YtkpdlbidadcdjaaSpreadsIn
set_option linter.unusedVariables false
set_option linter.unusedSimpArgs false
namespace Go.Proofs.Ytkpdlbidadcdjaa.Abs
open Go
set_option maxHeartbeats 1000000
set_option maxRecDepth 100000
def fragSels (fs : List DFrag) (n : Bs) : List DSel := match fs[(fragAt fs n).toNat]? with
  | some f => f.sels
  | none => []
def hasF (fs : List DFrag) (n : Bs) : Bool := decide (0 ≤ fragAt fs n)
def spF (fs : List DFrag) (n : Bs) : List Bs := spreads (fragSels fs n)
def allN (fs : List DFrag) (list : List DSel) : List Bs := spreads list ++ fs.flatMap fun f => spreads f.sels
theorem spF_sub (fs : List DFrag) (list : List DSel) (n : Bs) : ∀ x ∈ spF fs n, x ∈ allN fs list := by
  intro x hx
  unfold spF fragSels at hx
  unfold allN
  split at hx
  · next f hf => exact List.mem_append_right _ (List.mem_flatMap.2 ⟨f, List.mem_of_getElem? hf, hx⟩)
  · simp [spreads, tooMany, cntS, allS, sprd] at hx
theorem allN_len (fs : List DFrag) (list : List DSel) : (allN fs list).length ≤ 120 + 120 * fs.length := by
  have h1 := spreads_len list
  have h2 : (fs.flatMap fun f => spreads f.sels).length ≤ 120 * fs.length := by
    induction fs with
    | nil => simp
    | cons f fs ih => have := spreads_len f.sels; simp only [List.flatMap_cons, List.length_append, List.length_cons]; omega
  unfold allN
  rw [List.length_append]; omega
theorem reach_ex (fs : List DFrag) (list : List DSel) : ∃ w, RS (hasF fs) (spF fs) 0 (spreads list) w ∧ w.Nodup ∧ w.length ≤ 120 + 120 * fs.length := by
  obtain ⟨w, h1, h2, h3⟩ := RS.ex (has := hasF fs) (sp := spF fs) (U := allN fs list) (spF_sub fs list) _ 0 (spreads list) (spreads_nodup list) (fun x hx => List.mem_append_left _ hx) (Nat.zero_le _) (Nat.le_refl _)
  exact ⟨w, h1, h2, Nat.le_trans (nodup_len h2 h3) (allN_len fs list)⟩
noncomputable def reachW (fs : List DFrag) (list : List DSel) : List Bs := Classical.choose (reach_ex fs list)
noncomputable def reachO (fs : List DFrag) (list : List DSel) : List Bs := (reachW fs list).filter (hasF fs)
noncomputable def reach (fs : List DFrag) (list : List DSel) : List Bs := if 60 < fs.length then [] else srt (reachO fs list)
theorem reachW_ok (fs : List DFrag) (list : List DSel) : RS (hasF fs) (spF fs) 0 (spreads list) (reachW fs list) ∧ (reachW fs list).Nodup ∧ (reachW fs list).length ≤ 120 + 120 * fs.length := Classical.choose_spec (reach_ex fs list)
theorem reachO_nodup (fs : List DFrag) (list : List DSel) : (reachO fs list).Nodup := (reachW_ok fs list).2.1.filter _
theorem reachO_len (fs : List DFrag) (list : List DSel) : (reachO fs list).length ≤ 120 + 120 * fs.length := Nat.le_trans (List.length_filter_le _ _) (reachW_ok fs list).2.2
theorem reach_start (fs : List DFrag) (list : List DSel) : RI (hasF fs) (spF fs) 0 (putN (hasF fs) [] (spreads list)) (reachO fs list) := by
  have h := (reachW_ok fs list).1.toRI
  have e : putN (fun _ => true) [] (spreads list) = spreads list := by
    have := putN_new (ns := spreads list) (out := []) (by simpa using spreads_nodup list)
    simpa using this
  have e2 : (spreads list).filter (hasF fs) = putN (hasF fs) [] (spreads list) := by
    conv => lhs; rw [← e]
    rw [putN_filter]; rfl
  rw [e2] at h
  unfold reachO
  simpa using h
theorem RI.step {has : Bs → Bool} {sp : Bs → List Bs} {i : Nat} {out w : List Bs} {n : Bs} (h : RI has sp i out w) (hn : out[i]? = some n) : RI has sp (i + 1) (putN has out (sp n)) w := by
  cases h with
  | done h => rw [List.getElem?_eq_none (by omega)] at hn; cases hn
  | go h1 h2 => rw [hn] at h1; cases h1; exact h2
theorem RI.end {has : Bs → Bool} {sp : Bs → List Bs} {i : Nat} {out w : List Bs} (h : RI has sp i out w) (hn : out.length ≤ i) : w = out := by
  cases h with
  | done h => rfl
  | go h1 h2 => rw [List.getElem?_eq_none hn] at h1; cases h1
theorem putN_has {has : Bs → Bool} : ∀ {ns out : List Bs}, (∀ x ∈ out, has x = true) → ∀ x ∈ putN has out ns, has x = true := by
  intro ns; induction ns with
  | nil => intro out h; exact h
  | cons n ns ih =>
    intro out h
    simp only [putN]
    apply ih
    split
    · next hx => intro x hm; rw [List.mem_append, List.mem_singleton] at hm; rcases hm with hm | rfl
                 · exact h x hm
                 · exact hx.1
    · exact h
theorem putN_len {has : Bs → Bool} : ∀ {ns out : List Bs}, (putN has out ns).length ≤ out.length + ns.length := by
  intro ns; induction ns with
  | nil => intro out; simp [putN]
  | cons n ns ih =>
    intro out
    simp only [putN, List.length_cons]
    split
    · have := ih (out := out ++ [n]); simp at this; omega
    · have := ih (out := out); omega
theorem RS.step {has : Bs → Bool} {sp : Bs → List Bs} {h : Nat} {next w : List Bs} {n : Bs} (H : RS has sp h next w) (hn : next[h]? = some n) :
    (has n = false ∧ RS has sp (h + 1) next w) ∨ (has n = true ∧ RS has sp (h + 1) (putN (fun _ => true) next (sp n)) w) := by
  cases H with
  | done h => rw [List.getElem?_eq_none (by omega)] at hn; cases hn
  | skip h1 h2 h3 => rw [hn] at h1; cases h1; exact .inl ⟨h2, h3⟩
  | go h1 h2 h3 => rw [hn] at h1; cases h1; exact .inr ⟨h2, h3⟩
theorem RS.end {has : Bs → Bool} {sp : Bs → List Bs} {h : Nat} {next w : List Bs} (H : RS has sp h next w) (hn : next.length ≤ h) : w = next := by
  cases H with
  | done h => rfl
  | skip h1 => rw [List.getElem?_eq_none hn] at h1; cases h1
  | go h1 => rw [List.getElem?_eq_none hn] at h1; cases h1
theorem reach_len (fs : List DFrag) (list : List DSel) : (reach fs list).length ≤ 7320 := by
  unfold reach; split
  · simp
  · have := reachO_len fs list; rw [srt_len]; omega
theorem bnd_ReachOf (fs : List DFrag) (list : List DSel) : cnR (tStrS (reach fs list)) ≤ 1000000000 := by
  rw [cnStr]; have := reach_len fs list; omega
theorem fragAt_get {fs : List DFrag} {n : Bs} (h : 0 ≤ fragAt fs n) : ∃ j f, fragAt fs n = (j : Nat) ∧ j < fs.length ∧ fs[j]? = some f ∧ fragSels fs n = f.sels := by
  have h2 : fragAt fs n < fs.length := by
    unfold fragAt at h ⊢
    rcases idxOf_le (p := fun d : DFrag => decide (d.name = n)) (xs := fs) (k := 0) (by omega) with h3 | ⟨rfl, h3⟩ <;> omega
  refine ⟨(fragAt fs n).toNat, fs[(fragAt fs n).toNat]'(by omega), by omega, by omega, List.getElem?_eq_getElem (by omega), ?_⟩
  unfold fragSels
  rw [List.getElem?_eq_getElem (by omega)]
theorem fragSels_sz {fs : List DFrag} {n : Bs} (hs : fs.length + szR (tFragS fs) ≤ 1048576) : (fragSels fs n).length + szR (tSelS (fragSels fs n)) ≤ 1048576 := by
  unfold fragSels
  split
  · next f hf =>
    have := szR_get (tFragS_get hf)
    have el := szR_take_le (rs := tFragS fs) ((fragAt fs n).toNat + 1)
    obtain ⟨x0, x1, x2, x3⟩ := f
    simp only [tFrag, szL, szT, tDirS_len, tSelS_len] at this ⊢
    omega
  · simp [tSelS, szR]
end Go.Proofs.Ytkpdlbidadcdjaa.Abs
