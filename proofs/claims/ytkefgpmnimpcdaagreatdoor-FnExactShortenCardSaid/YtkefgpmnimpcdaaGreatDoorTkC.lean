/- A text in a block without what its lines share: the reference. No condition. -/
import Derived.Test.YtkefgpmnimpcdaaGreatDoorTkA
import Derived.Test.YtkefgpmnimpcdaaGreatDoorFsh
import Derived.Test.YtkefgpmnimpcdaaGreatDoorTxQ
set_option linter.unusedVariables false
set_option linter.unusedSimpArgs false
namespace Go.Proofs.YtkefgpmnimpcdaaGreatDoor.Abs
open Go
set_option maxHeartbeats 2000000
set_option maxRecDepth 100000
theorem encStr_map {m : Md} : ∀ xs : List Bs, encR m (tStrS xs) = xs.map AC.str := by
  intro xs; induction xs with
  | nil => simp [tStrS, encR]
  | cons x xs ih => simp [tStrS, encR, encL, encT] at ih ⊢; exact ih
theorem closed_strs : ∀ xs : List Bs, closedL (xs.map AC.str) = true := by
  intro xs; induction xs with
  | nil => rfl
  | cons x xs ih => simpa [closedL, closed] using ih
theorem toEx_strs : ∀ xs : List Bs, toExL (xs.map AC.str) = xs.map AC.str := by
  intro xs; induction xs with
  | nil => rfl
  | cons x xs ih => simpa [toExL, toEx] using ih
theorem c_LinesInX (s : Bs) (hs : s.length ≤ 1000000) (K) : Ct Tryz.prog 258 [.str s] K (.sl (.ex 9) (linesF false s).length ((linesF false s).map AC.str)) K := by
  have h := c_LinesInS s hs []
  rw [encStr_map] at h
  have := ct_fresh (by rfl) (by simp only [closed]; exact closed_strs _) h K
  simpa [toEx, toEx_strs] using this
def leastG : Int → List Bs → Int
  | m, [] => m
  | m, l :: ls => leastG (if indN l < l.length ∧ (m < 0 ∨ (indN l : Int) < m) then (indN l : Int) else m) ls
def cutN (m : Int) (l : Bs) : Nat := if m < 0 then 0 else if m < indN l then m.toNat else indN l
def cutF (m : Int) (l : Bs) : Bs := l.drop (cutN m l)
def cutL (m : Int) : List Bs → List Bs
  | [] => []
  | h :: t => h :: t.map (cutF m)
def bareL (l : Bs) : Bool := decide (indN l = l.length)
def joinL : List Bs → Bs
  | [] => []
  | [l] => l
  | l :: ls => l ++ 10 :: joinL ls
def dropR (p : Bs → Bool) (ls : List Bs) : List Bs := (ls.reverse.dropWhile p).reverse
def blockV (raw : Bs) : Bs :=
  joinL (dropR bareL ((cutL (leastG (-1) ((linesF false raw).drop 1)) (linesF false raw)).dropWhile bareL))
theorem linesF_len : ∀ (r : Bs) (skip : Bool), (linesF skip r).length ≤ r.length + 1 ∧ ∀ l ∈ linesF skip r, l.length ≤ r.length := by
  intro r; induction r with
  | nil => intro skip; simp [linesF]
  | cons b r ih =>
    intro skip
    rw [linesF]
    have h1 := ih false
    have h2 := ih true
    split
    · refine ⟨by simp; omega, fun l hl => ?_⟩
      have := h1.2 l hl; simp; omega
    · split
      · refine ⟨by simp; omega, fun l hl => ?_⟩
        rcases List.mem_cons.1 hl with rfl | hl
        · simp
        · have := h2.2 l hl; simp; omega
      · split
        · refine ⟨by simp; omega, fun l hl => ?_⟩
          rcases List.mem_cons.1 hl with rfl | hl
          · simp
          · have := h1.2 l hl; simp; omega
        · cases hh : linesF false r with
          | nil => simp
          | cons l0 ls =>
            rw [hh] at h1
            refine ⟨by simp at h1 ⊢; omega, fun l hl => ?_⟩
            rcases List.mem_cons.1 hl with rfl | hl
            · have := h1.2 l0 (by simp); simp; omega
            · have := h1.2 l (by simp [hl]); simp; omega
theorem strAt {L : List Bs} {i : Nat} {l : Bs} (h : L[i]? = some l) : ((L.map AC.str).drop i).take 1 = [.str l] := by
  obtain ⟨hlt, he⟩ := List.getElem?_eq_some_iff.1 h
  rw [List.drop_eq_getElem_cons (by simpa using hlt)]
  simp [he]
theorem put_str {B : List Bs} {j : Nat} {x : Bs} (h : j < B.length) : (B.map AC.str).take j ++ AC.str x :: (B.map AC.str).drop (j + 1) = (B.set j x).map AC.str := by
  rw [List.map_set, List.set_eq_take_append_cons_drop, if_pos (by simpa using h)]
theorem lend_strs : ∀ xs : List Bs, lendL (xs.map AC.str) = xs.map AC.str := by
  intro xs; induction xs with
  | nil => rfl
  | cons x xs ih => simpa [lendL, lendS] using ih
theorem dropR_snoc {p : Bs → Bool} {xs : List Bs} {x : Bs} : dropR p (xs ++ [x]) = if p x then dropR p xs else xs ++ [x] := by
  unfold dropR
  rw [List.reverse_append]
  simp only [List.reverse_cons, List.reverse_nil, List.nil_append, List.singleton_append, List.dropWhile_cons]
  split <;> simp
theorem dropR_nil {p : Bs → Bool} : dropR p [] = [] := rfl
theorem takeDrop_snoc {C : List Bs} {f t : Nat} {x : Bs} (hf : f ≤ t) (h : C[t]? = some x) : (C.take (t + 1)).drop f = (C.take t).drop f ++ [x] := by
  have hlt := (List.getElem?_eq_some_iff.1 h).1
  rw [List.take_add_one, h, List.drop_append, List.length_take, Nat.min_eq_left (by omega)]
  simp [show f - t = 0 by omega]
def joinR : List Bs → Bs
  | [] => []
  | l :: ls => 10 :: l ++ joinR ls
theorem joinL_cons (l : Bs) (ls : List Bs) : joinL (l :: ls) = l ++ joinR ls := by
  induction ls generalizing l with
  | nil => simp [joinL, joinR]
  | cons x xs ih =>
    show l ++ 10 :: joinL (x :: xs) = _
    rw [ih, joinR]; simp
theorem byteCells_encB (l : Bs) : byteCells l = encB l := rfl
theorem c_BlockValueS (s : Bs) (hs : s.length ≤ 100000) (K) : Ct Tryz.prog 217 [.str s] K (.str (blockV s)) K := by
  have hll := linesF_len s false
  have hne := linesF_ne s false
  have hLi := fun K => c_LinesInX s (by omega) K
  generalize hR : blockV s = R
  unfold blockV at hR
  generalize linesF false s = L at *
  refine ct_fn { n0 := 13, ex := [], tk := [14, 25, 53, 82, 103, 114, 124, 125, 126, 127, 132], es := true, xr := [19, 22] } Tryz.func217 rfl (by kernel_rfl) (by kernel_rfl) rfl ?_
  simp -implicitDefEqProofs [Tryz.f217]
  refine callK_of (hLi _) ?_
  simp -implicitDefEqProofs
  intro y0
  have hL1 : 1 ≤ L.length := by cases L with | nil => exact absurd rfl hne | cons a b => simp
  generalize hM : leastG (-1) (L.drop 1) = M at hR
  obtain ⟨I, hI⟩ : ∃ I : Nat → St → Prop, ∀ m st, I m st ↔ ∃ (i : Nat) (q : Int), 1 ≤ i ∧ i ≤ L.length ∧ m = L.length - i ∧ -1 ≤ q ∧ q ≤ 1000000 ∧ leastG q (L.drop i) = M ∧
    st = { env := [(0, .str s), (2, .str []), (3, .nam y0 (.sl (.ex 9) L.length (L.map AC.str))), (4, .int .i64 q), (5, .int .i64 i)], loc := [], K := [] :: K } := ⟨_, fun _ _ => Iff.rfl⟩
  refine wC_loopI I (L.length - 1) ((hI _ _).2 ⟨1, -1, by omega, hL1, rfl, by omega, by omega, hM, rfl⟩) (St.le_of (by simp) (by simp) rfl (by simp)) ?_
  intro m st hst
  obtain ⟨i, q, hi1, hi, rfl, hq1, hq2, hq, rfl⟩ := (hI _ _).1 hst
  clear hst
  rcases Nat.lt_or_ge i L.length with hlt | hge
  · obtain ⟨l, hx⟩ : ∃ l, L[i]? = some l := ⟨_, List.getElem?_eq_getElem hlt⟩
    have hxe : L[i]'hlt = l := (List.getElem?_eq_some_iff.1 hx).2
    have hd : L.drop i = l :: L.drop (i + 1) := by rw [List.drop_eq_getElem_cons hlt, hxe]
    have w1 : IntKind.i64.wrap ((i : Int) + 1) = (i + 1 : Nat) := by rw [wrap64 (by omega) (by omega)]; rfl
    have hlen := hll.2 l (List.mem_of_getElem? hx)
    have hil := indN_le l
    have cI := fun K => c_IndentS l (by omega) K
    rw [hd, leastG] at hq
    have ea := strAt hx
    simp -implicitDefEqProofs [hlt, hx, hxe, ea]
    intro _
    refine ⟨by omega, callK_of (cI _) ?_⟩
    simp -implicitDefEqProofs [hlt, hx, hxe, ea, w1]
    refine ⟨by omega, fun _ => ⟨fun h1 h2 => ?_, fun h => ?_⟩⟩
    · rw [if_pos ⟨h1, h2⟩] at hq
      exact ⟨L.length - (i + 1), by omega, _, St.le_of (by simp) (by simp [St.trunc, look, mapV, mapC, killP]) rfl (by simp [St.trunc, mapC]), (hI _ _).2 ⟨i + 1, indN l, by omega, by omega, rfl, by omega, by omega, hq, rfl⟩⟩
    · rw [if_neg (fun h2 => by have := h h2.1; omega)] at hq
      exact ⟨L.length - (i + 1), by omega, _, St.le_of (by simp) (by simp [St.trunc, look, mapV, mapC, killP]) rfl (by simp [St.trunc, mapC]), (hI _ _).2 ⟨i + 1, q, by omega, by omega, rfl, hq1, hq2, hq, rfl⟩⟩
  · have hie : i = L.length := by omega
    rw [List.drop_eq_nil_of_le hge, leastG] at hq
    subst hq
    have hn : ¬ i < L.length := by omega
    simp -implicitDefEqProofs [hn]
    intros
    obtain ⟨J, hJ⟩ : ∃ J : Nat → St → Prop, ∀ m st, J m st ↔ ∃ (j : Nat) (B : List Bs), 1 ≤ j ∧ j ≤ L.length ∧ m = L.length - j ∧ B.length = L.length ∧ B.drop j = L.drop j ∧ B.take j ++ (B.drop j).map (cutF q) = cutL q L ∧
      st = { env := [(0, .str s), (2, .str []), (3, .nam y0 (.sl (.ex 9) L.length (B.map AC.str))), (4, .int .i64 q), (7, .int .i64 j)], loc := [], K := [] :: K } := ⟨_, fun _ _ => Iff.rfl⟩
    refine wC_loopI J (L.length - 1) ((hJ _ _).2 ⟨1, L, by omega, hL1, rfl, rfl, rfl, by cases L with | nil => simp at hL1 | cons a b => simp [cutL], rfl⟩) (St.le_of (by simp) (by simp) rfl (by simp)) ?_
    clear hI hie hi hi1 hge hn
    clear I
    intro m st hst
    obtain ⟨j, B, hj1, hj, rfl, hBl, hBd, hC, rfl⟩ := (hJ _ _).1 hst
    clear hst
    rcases Nat.lt_or_ge j L.length with hlt | hge
    · obtain ⟨l, hx⟩ : ∃ l, L[j]? = some l := ⟨_, List.getElem?_eq_getElem hlt⟩
      have hd : L.drop j = l :: L.drop (j + 1) := by rw [List.drop_eq_getElem_cons hlt, (List.getElem?_eq_some_iff.1 hx).2]
      have hx2 : B[j]? = some l := by
        have := congrArg (·[0]?) hBd
        simp only [List.getElem?_drop, Nat.add_zero] at this
        rw [this, hx]
      have ea := strAt hx2
      have w1 : IntKind.i64.wrap ((j : Int) + 1) = (j + 1 : Nat) := by rw [wrap64 (by omega) (by omega)]; rfl
      have hlen := hll.2 l (List.mem_of_getElem? hx)
      have hil := indN_le l
      have cI := fun K => c_IndentS l (by omega) K
      have hjB : j < B.length := by omega
      have hset : (B.set j (cutF q l)).drop (j + 1) = B.drop (j + 1) := by rw [List.drop_set_of_lt (by omega)]
      have hgo : ∀ st', st' = ({ env := [(0, .str s), (2, .str []), (3, .nam y0 (.sl (.ex 9) L.length ((B.set j (cutF q l)).map AC.str))), (4, .int .i64 q), (7, .int .i64 (j + 1 : Nat))], loc := [], K := [] :: K } : St) → ∃ m', m' < L.length - j ∧ J m' st' := by
        rintro _ rfl
        refine ⟨L.length - (j + 1), by omega, (hJ _ _).2 ⟨j + 1, B.set j (cutF q l), by omega, by omega, rfl, by simp [hBl], ?_, ?_, rfl⟩⟩
        · rw [hset]
          have := congrArg (List.drop 1) hBd
          rwa [List.drop_drop, List.drop_drop] at this
        · rw [hset, ← hC, List.take_add_one, List.take_set_of_le (by omega), List.getElem?_set_self hjB]
          have hd2 : B.drop j = l :: B.drop (j + 1) := by rw [List.drop_eq_getElem_cons hjB, (List.getElem?_eq_some_iff.1 hx2).2]
          rw [hd2]; simp
      simp -implicitDefEqProofs [hlt, ea, hBl]
      intro _
      refine ⟨by omega, callK_of (cI _) ?_⟩
      rcases (by omega : q < 0 ∨ (0 ≤ q ∧ q < indN l) ∨ (0 ≤ q ∧ (indN l : Int) ≤ q)) with hq0 | ⟨hq0, hq3⟩ | ⟨hq0, hq3⟩
      · have hcut : cutF q l = l := by unfold cutF cutN; rw [if_pos hq0]; rfl
        have n0 : ¬ 0 ≤ q := by omega
        simp -implicitDefEqProofs [hlt, ea, hBl, hq0, n0, w1]
        rw [put_str hjB]
        rw [hcut] at hgo
        obtain ⟨m', h1, h2⟩ := hgo _ rfl
        exact ⟨by omega, m', h1, _, St.le_of (by simp) (by simp [St.trunc, look, mapV, mapC, killP]) rfl (by simp [St.trunc, mapC]), h2⟩
      · have hcut : cutF q l = l.drop q.toNat := by unfold cutF cutN; rw [if_neg (by omega), if_pos hq3]
        have n0 : ¬ q < 0 := by omega
        simp -implicitDefEqProofs [hlt, ea, hBl, hq0, hq3, n0, w1]
        rw [put_str hjB]
        rw [hcut] at hgo
        obtain ⟨m', h1, h2⟩ := hgo _ rfl
        exact ⟨by omega, by omega, by omega, m', h1, _, St.le_of (by simp) (by simp [St.trunc, look, mapV, mapC, killP]) rfl (by simp [St.trunc, mapC]), h2⟩
      · have hcut : cutF q l = l.drop (indN l) := by unfold cutF cutN; rw [if_neg (by omega), if_neg (by omega)]
        have n0 : ¬ q < 0 := by omega
        have n1 : ¬ q < indN l := by omega
        simp -implicitDefEqProofs [hlt, ea, hBl, hq0, n1, n0, w1]
        rw [put_str hjB]
        rw [hcut] at hgo
        obtain ⟨m', h1, h2⟩ := hgo _ rfl
        exact ⟨by omega, by omega, by omega, m', h1, _, St.le_of (by simp) (by simp [St.trunc, look, mapV, mapC, killP]) rfl (by simp [St.trunc, mapC]), h2⟩
    · have hjl : j = L.length := by omega
      rw [List.drop_eq_nil_of_le (by omega), List.map_nil, List.append_nil, List.take_of_length_le (by omega)] at hC
      subst hC
      have hn : ¬ j < L.length := by omega
      simp -implicitDefEqProofs [hn, hBl]
      have hCl : (cutL q L).length = L.length := by cases L <;> simp [cutL]
      have hCm : ∀ l ∈ cutL q L, l.length ≤ s.length := by
        intro l hl
        cases L with
        | nil => simp [cutL] at hl
        | cons a b =>
          rcases List.mem_cons.1 hl with rfl | hl
          · exact hll.2 _ (by simp)
          · obtain ⟨x, hx, rfl⟩ := List.mem_map.1 hl
            have := hll.2 x (by simp [hx])
            unfold cutF; rw [List.length_drop]; omega
      have hlL := hll.1
      generalize cutL q L = C at *
      clear hJ hBd hBl hj hj1 hM hn hjl hge hll hLi hne
      clear J
      intros
      generalize hD : C.dropWhile bareL = D at hR
      obtain ⟨F, hF⟩ : ∃ F : Nat → St → Prop, ∀ m st, F m st ↔ ∃ (f : Nat), f ≤ C.length ∧ m = C.length - f ∧ (C.drop f).dropWhile bareL = D ∧
        st = { env := [(0, .str s), (2, .str []), (3, .nam y0 (.sl (.ex 9) L.length (C.map AC.str))), (9, .int .i64 f)], loc := [], K := [] :: K } := ⟨_, fun _ _ => Iff.rfl⟩
      refine wC_loopI F C.length ((hF _ _).2 ⟨0, by omega, rfl, by simpa using hD, rfl⟩) (St.le_of (by simp) (by simp) rfl (by simp)) ?_
      intro m st hst
      obtain ⟨f, hf, rfl, hfD, rfl⟩ := (hF _ _).1 hst
      clear hst
      simp -implicitDefEqProofs
      intro y1
      refine wRun_draw true rfl (by decide +kernel) ?_
      rcases Nat.lt_or_ge f C.length with hlt | hge
      · obtain ⟨l, hx⟩ : ∃ l, C[f]? = some l := ⟨_, List.getElem?_eq_getElem hlt⟩
        have hd : C.drop f = l :: C.drop (f + 1) := by rw [List.drop_eq_getElem_cons hlt, (List.getElem?_eq_some_iff.1 hx).2]
        have ea := strAt hx
        have w1 : IntKind.i64.wrap ((f : Int) + 1) = (f + 1 : Nat) := by rw [wrap64 (by omega) (by omega)]; rfl
        have hlen := hCm l (List.mem_of_getElem? hx)
        have cI := fun K => c_IndentS l (by omega) K
        have hlt' : f < L.length := by omega
        rw [hd, List.dropWhile_cons] at hfD
        simp -implicitDefEqProofs [hlt', ea, lend_strs, hCl]
        refine callK_still (fun _ => cI _) ?_
        simp -implicitDefEqProofs [hlt', ea, lend_strs, hCl, w1]
        refine ⟨fun h => ?_, fun h => ?_⟩
        · have hb : bareL l = true := by unfold bareL; rw [decide_eq_true_iff]; omega
          rw [hb, if_pos rfl] at hfD
          exact ⟨C.length - (f + 1), by omega, _, St.le_of (by simp) (by simp [St.trunc, look, mapV, mapC, killP]) rfl (by simp [St.trunc, mapC]), (hF _ _).2 ⟨f + 1, by omega, rfl, hfD, rfl⟩⟩
        · have hb : bareL l = false := by unfold bareL; rw [decide_eq_false_iff_not]; omega
          rw [hb, if_neg (by simp)] at hfD
          rw [← hd] at hfD
          have hfE : C.drop f = D := hfD
          intros
          obtain ⟨G, hG⟩ : ∃ G : Nat → St → Prop, ∀ m st, G m st ↔ ∃ (t : Nat), f ≤ t ∧ t ≤ C.length ∧ m = t - f ∧ joinL (dropR bareL ((C.take t).drop f)) = R ∧
            st = { env := [(0, .str s), (2, .str []), (3, .nam y0 (.sl (.ex 9) L.length (C.map AC.str))), (9, .int .i64 f), (10, .int .i64 t)], loc := [], K := [] :: K } := ⟨_, fun _ _ => Iff.rfl⟩
          refine wC_loopI G (C.length - f) ((hG _ _).2 ⟨C.length, hf, Nat.le_refl _, rfl, by rw [List.take_of_length_le (Nat.le_refl _), hfE]; exact hR, rfl⟩) (St.le_of (by simp) (by simp [hCl]) rfl (by simp)) ?_
          intro m st hst
          obtain ⟨t, hft, ht, rfl, htR, rfl⟩ := (hG _ _).1 hst
          clear hst
          simp -implicitDefEqProofs
          intro y2
          refine wRun_draw true rfl (by decide +kernel) ?_
          rcases Nat.lt_or_ge f t with hlt3 | hge3
          · obtain ⟨u, hu⟩ : ∃ u, t = u + 1 := ⟨t - 1, by omega⟩
            obtain ⟨l2, hx3⟩ : ∃ l, C[u]? = some l := ⟨_, List.getElem?_eq_getElem (by omega)⟩
            have ea3 := strAt hx3
            have w3 : IntKind.i64.wrap ((t : Int) - 1) = (u : Nat) := by rw [wrap64 (by omega) (by omega)]; omega
            have hlen3 := hCm l2 (List.mem_of_getElem? hx3)
            have cI3 := fun K => c_IndentS l2 (by omega) K
            have huL : u < L.length := by omega
            rw [hu, takeDrop_snoc (by omega) hx3, dropR_snoc] at htR
            simp -implicitDefEqProofs [hlt3, huL, w3, ea3, lend_strs, hCl]
            refine callK_still (fun _ => cI3 _) ?_
            simp -implicitDefEqProofs [hlt3, huL, w3, ea3, lend_strs, hCl]
            refine ⟨fun h => ?_, fun h => ?_⟩
            · have hb : bareL l2 = true := by unfold bareL; rw [decide_eq_true_iff]; omega
              rw [hb, if_pos rfl] at htR
              exact ⟨u - f, by omega, _, St.le_of (by simp) (by simp [St.trunc, look, mapV, mapC, killP]) rfl (by simp [St.trunc, mapC]), (hG _ _).2 ⟨u, by omega, by omega, rfl, htR, rfl⟩⟩
            · have hb : bareL l2 = false := by unfold bareL; rw [decide_eq_false_iff_not]; omega
              rw [hb, if_neg (by simp), ← takeDrop_snoc (by omega) hx3, ← hu] at htR
              have hRE : joinL ((C.take t).drop f) = R := htR
              intros
              obtain ⟨H, hH⟩ : ∃ H : Nat → St → Prop, ∀ m st, H m st ↔ ∃ (i : Nat) (acc : Bs), f ≤ i ∧ i ≤ t ∧ m = t - i ∧ acc.length ≤ 200000 * i ∧ (i = f → acc = []) ∧ (if i = f then joinL ((C.take t).drop f) else acc ++ joinR ((C.take t).drop i)) = R ∧
                st = { env := [(0, .str s), (2, .str []), (3, .nam y0 (.sl (.ex 9) L.length (C.map AC.str))), (9, .int .i64 f), (10, .int .i64 t), (11, .sl (.of 5) acc.length (encB acc)), (12, .int .i64 i)], loc := [], K := [] :: K } := ⟨_, fun _ _ => Iff.rfl⟩
              refine wC_loopI H (t - f) ((hH _ _).2 ⟨f, [], Nat.le_refl _, hft, rfl, by simp, fun _ => rfl, by rw [if_pos rfl]; exact hRE, rfl⟩) (St.le_of (by simp) (by simp) rfl (by simp)) ?_
              intro m st hst
              obtain ⟨i5, acc, hfi, hit, rfl, hacc, hac0, hR5, rfl⟩ := (hH _ _).1 hst
              clear hst
              rcases Nat.lt_or_ge i5 t with hlt5 | hge5
              · obtain ⟨l5, hx5⟩ : ∃ l, C[i5]? = some l := ⟨_, List.getElem?_eq_getElem (by omega)⟩
                have ea5 := strAt hx5
                have hlen5 := hCm l5 (List.mem_of_getElem? hx5)
                have hi5L : i5 < L.length := by omega
                have w5 : IntKind.i64.wrap ((i5 : Int) + 1) = (i5 + 1 : Nat) := by rw [wrap64 (by omega) (by omega)]; rfl
                have hd5 : (C.take t).drop i5 = l5 :: (C.take t).drop (i5 + 1) := by
                  have hlt6 : i5 < (C.take t).length := by rw [List.length_take]; omega
                  rw [List.drop_eq_getElem_cons hlt6, List.getElem_take, (List.getElem?_eq_some_iff.1 hx5).2]
                have hne5 : i5 + 1 ≠ f := by omega
                by_cases hif : i5 = f
                · have hacc0 := hac0 hif
                  subst hacc0
                  rw [if_pos hif, ← hif, hd5, joinL_cons] at hR5
                  have hnf : ¬ f < i5 := by omega
                  simp -implicitDefEqProofs [hlt5, hnf, ea5, hi5L, w5]
                  exact ⟨by omega, by unfold maxLen; omega, by omega, t - (i5 + 1), by omega, _, St.le_of (by simp) (by simp [St.trunc, look, mapV, mapC, killP, byteCells_encB]) rfl (by simp [St.trunc, mapC]), (hH _ _).2 ⟨i5 + 1, l5, by omega, by omega, rfl, by omega, fun h => absurd h hne5, by rw [if_neg hne5]; exact hR5, rfl⟩⟩
                · rw [if_neg hif, hd5, joinR] at hR5
                  have hff : f < i5 := by omega
                  simp -implicitDefEqProofs [hlt5, hff, ea5, hi5L, w5]
                  rw [show acc.length + 1 + l5.length = acc.length + (l5.length + 1) by omega]
                  exact ⟨by unfold maxLen; omega, by omega, by omega, by unfold maxLen; omega, by omega, t - (i5 + 1), by omega, _, St.le_of (by simp) (by simp [St.trunc, look, mapV, mapC, killP, byteCells_encB]) rfl (by simp [St.trunc, mapC]), (hH _ _).2 ⟨i5 + 1, acc ++ 10 :: l5, by omega, by omega, rfl, by simp only [List.length_append, List.length_cons]; omega, fun h => absurd h hne5, by rw [if_neg hne5, ← hR5]; simp, rfl⟩⟩
              · have hte : i5 = t := by omega
                have hn5 : ¬ i5 < t := by omega
                simp -implicitDefEqProofs [hn5]
                have hRa : R = acc := by
                  by_cases hif : i5 = f
                  · rw [if_pos hif] at hR5
                    have h0 : (C.take t).drop f = [] := List.drop_eq_nil_of_le (by rw [List.length_take]; omega)
                    rw [h0] at hR5; rw [hac0 hif, ← hR5]; rfl
                  · rw [if_neg hif, List.drop_eq_nil_of_le (by rw [List.length_take]; omega), joinR] at hR5
                    rw [← hR5]; simp
                exact ⟨by unfold maxLen; omega, hRa⟩
          · have hn3 : ¬ f < t := by omega
            obtain ⟨l2, hx3⟩ : ∃ l, C[(IntKind.i64.wrap ((t : Int) - 1)).toNat]? = some l := ⟨_, List.getElem?_eq_getElem (by rw [wrap64 (by omega) (by omega)]; omega)⟩
            have ea3 := strAt hx3
            simp -implicitDefEqProofs [hn3, lend_strs, hCl, ea3]
            refine callK_still (r := .int .i64 0) (fun h => absurd h (by simp)) ?_
            simp -implicitDefEqProofs [hn3, lend_strs, hCl, ea3]
            have hRE : joinL ((C.take t).drop f) = R := by
              have : (C.take t).drop f = [] := List.drop_eq_nil_of_le (by rw [List.length_take]; omega)
              rw [this] at htR ⊢; rw [← htR, dropR_nil]
            intros
            obtain ⟨H, hH⟩ : ∃ H : Nat → St → Prop, ∀ m st, H m st ↔ ∃ (i : Nat) (acc : Bs), f ≤ i ∧ i ≤ t ∧ m = t - i ∧ acc.length ≤ 200000 * i ∧ (i = f → acc = []) ∧ (if i = f then joinL ((C.take t).drop f) else acc ++ joinR ((C.take t).drop i)) = R ∧
              st = { env := [(0, .str s), (2, .str []), (3, .nam y0 (.sl (.ex 9) L.length (C.map AC.str))), (9, .int .i64 f), (10, .int .i64 t), (11, .sl (.of 5) acc.length (encB acc)), (12, .int .i64 i)], loc := [], K := [] :: K } := ⟨_, fun _ _ => Iff.rfl⟩
            refine wC_loopI H (t - f) ((hH _ _).2 ⟨f, [], Nat.le_refl _, hft, rfl, by simp, fun _ => rfl, by rw [if_pos rfl]; exact hRE, rfl⟩) (St.le_of (by simp) (by simp) rfl (by simp)) ?_
            intro m st hst
            obtain ⟨i5, acc, hfi, hit, rfl, hacc, hac0, hR5, rfl⟩ := (hH _ _).1 hst
            clear hst
            rcases Nat.lt_or_ge i5 t with hlt5 | hge5
            · obtain ⟨l5, hx5⟩ : ∃ l, C[i5]? = some l := ⟨_, List.getElem?_eq_getElem (by omega)⟩
              have ea5 := strAt hx5
              have hlen5 := hCm l5 (List.mem_of_getElem? hx5)
              have hi5L : i5 < L.length := by omega
              have w5 : IntKind.i64.wrap ((i5 : Int) + 1) = (i5 + 1 : Nat) := by rw [wrap64 (by omega) (by omega)]; rfl
              have hd5 : (C.take t).drop i5 = l5 :: (C.take t).drop (i5 + 1) := by
                have hlt6 : i5 < (C.take t).length := by rw [List.length_take]; omega
                rw [List.drop_eq_getElem_cons hlt6, List.getElem_take, (List.getElem?_eq_some_iff.1 hx5).2]
              have hne5 : i5 + 1 ≠ f := by omega
              by_cases hif : i5 = f
              · have hacc0 := hac0 hif
                subst hacc0
                rw [if_pos hif, ← hif, hd5, joinL_cons] at hR5
                have hnf : ¬ f < i5 := by omega
                simp -implicitDefEqProofs [hlt5, hnf, ea5, hi5L, w5]
                exact ⟨by omega, by unfold maxLen; omega, by omega, t - (i5 + 1), by omega, _, St.le_of (by simp) (by simp [St.trunc, look, mapV, mapC, killP, byteCells_encB]) rfl (by simp [St.trunc, mapC]), (hH _ _).2 ⟨i5 + 1, l5, by omega, by omega, rfl, by omega, fun h => absurd h hne5, by rw [if_neg hne5]; exact hR5, rfl⟩⟩
              · rw [if_neg hif, hd5, joinR] at hR5
                have hff : f < i5 := by omega
                simp -implicitDefEqProofs [hlt5, hff, ea5, hi5L, w5]
                rw [show acc.length + 1 + l5.length = acc.length + (l5.length + 1) by omega]
                exact ⟨by unfold maxLen; omega, by omega, by omega, by unfold maxLen; omega, by omega, t - (i5 + 1), by omega, _, St.le_of (by simp) (by simp [St.trunc, look, mapV, mapC, killP, byteCells_encB]) rfl (by simp [St.trunc, mapC]), (hH _ _).2 ⟨i5 + 1, acc ++ 10 :: l5, by omega, by omega, rfl, by simp only [List.length_append, List.length_cons]; omega, fun h => absurd h hne5, by rw [if_neg hne5, ← hR5]; simp, rfl⟩⟩
            · have hte : i5 = t := by omega
              have hn5 : ¬ i5 < t := by omega
              simp -implicitDefEqProofs [hn5]
              have hRa : R = acc := by
                by_cases hif : i5 = f
                · rw [if_pos hif] at hR5
                  have h0 : (C.take t).drop f = [] := List.drop_eq_nil_of_le (by rw [List.length_take]; omega)
                  rw [h0] at hR5; rw [hac0 hif, ← hR5]; rfl
                · rw [if_neg hif, List.drop_eq_nil_of_le (by rw [List.length_take]; omega), joinR] at hR5
                  rw [← hR5]; simp
              exact ⟨by unfold maxLen; omega, hRa⟩
      · have hn : ¬ f < L.length := by omega
        have ea0 : (C.map AC.str).drop f = [] := List.drop_eq_nil_of_le (by simpa using hge)
        rw [List.drop_eq_nil_of_le hge] at hfD
        simp -implicitDefEqProofs [hn, lend_strs, hCl, ea0]
        refine callK_still (r := .int .i64 0) (fun h => absurd h (by simp)) ?_
        simp -implicitDefEqProofs [hn, lend_strs, hCl, ea0]
        have hfE : C.drop f = D := by rw [List.drop_eq_nil_of_le hge]; exact hfD
        intros
        obtain ⟨G, hG⟩ : ∃ G : Nat → St → Prop, ∀ m st, G m st ↔ ∃ (t : Nat), f ≤ t ∧ t ≤ C.length ∧ m = t - f ∧ joinL (dropR bareL ((C.take t).drop f)) = R ∧
          st = { env := [(0, .str s), (2, .str []), (3, .nam y0 (.sl (.ex 9) L.length (C.map AC.str))), (9, .int .i64 f), (10, .int .i64 t)], loc := [], K := [] :: K } := ⟨_, fun _ _ => Iff.rfl⟩
        refine wC_loopI G (C.length - f) ((hG _ _).2 ⟨C.length, hf, Nat.le_refl _, rfl, by rw [List.take_of_length_le (Nat.le_refl _), hfE]; exact hR, rfl⟩) (St.le_of (by simp) (by simp [hCl]) rfl (by simp)) ?_
        intro m st hst
        obtain ⟨t, hft, ht, rfl, htR, rfl⟩ := (hG _ _).1 hst
        clear hst
        simp -implicitDefEqProofs
        intro y2
        refine wRun_draw true rfl (by decide +kernel) ?_
        rcases Nat.lt_or_ge f t with hlt3 | hge3
        · obtain ⟨u, hu⟩ : ∃ u, t = u + 1 := ⟨t - 1, by omega⟩
          obtain ⟨l2, hx3⟩ : ∃ l, C[u]? = some l := ⟨_, List.getElem?_eq_getElem (by omega)⟩
          have ea3 := strAt hx3
          have w3 : IntKind.i64.wrap ((t : Int) - 1) = (u : Nat) := by rw [wrap64 (by omega) (by omega)]; omega
          have hlen3 := hCm l2 (List.mem_of_getElem? hx3)
          have cI3 := fun K => c_IndentS l2 (by omega) K
          have huL : u < L.length := by omega
          rw [hu, takeDrop_snoc (by omega) hx3, dropR_snoc] at htR
          simp -implicitDefEqProofs [hlt3, huL, w3, ea3, lend_strs, hCl]
          refine callK_still (fun _ => cI3 _) ?_
          simp -implicitDefEqProofs [hlt3, huL, w3, ea3, lend_strs, hCl]
          refine ⟨fun h => ?_, fun h => ?_⟩
          · have hb : bareL l2 = true := by unfold bareL; rw [decide_eq_true_iff]; omega
            rw [hb, if_pos rfl] at htR
            exact ⟨u - f, by omega, _, St.le_of (by simp) (by simp [St.trunc, look, mapV, mapC, killP]) rfl (by simp [St.trunc, mapC]), (hG _ _).2 ⟨u, by omega, by omega, rfl, htR, rfl⟩⟩
          · have hb : bareL l2 = false := by unfold bareL; rw [decide_eq_false_iff_not]; omega
            rw [hb, if_neg (by simp), ← takeDrop_snoc (by omega) hx3, ← hu] at htR
            have hRE : joinL ((C.take t).drop f) = R := htR
            intros
            obtain ⟨H, hH⟩ : ∃ H : Nat → St → Prop, ∀ m st, H m st ↔ ∃ (i : Nat) (acc : Bs), f ≤ i ∧ i ≤ t ∧ m = t - i ∧ acc.length ≤ 200000 * i ∧ (i = f → acc = []) ∧ (if i = f then joinL ((C.take t).drop f) else acc ++ joinR ((C.take t).drop i)) = R ∧
              st = { env := [(0, .str s), (2, .str []), (3, .nam y0 (.sl (.ex 9) L.length (C.map AC.str))), (9, .int .i64 f), (10, .int .i64 t), (11, .sl (.of 5) acc.length (encB acc)), (12, .int .i64 i)], loc := [], K := [] :: K } := ⟨_, fun _ _ => Iff.rfl⟩
            refine wC_loopI H (t - f) ((hH _ _).2 ⟨f, [], Nat.le_refl _, hft, rfl, by simp, fun _ => rfl, by rw [if_pos rfl]; exact hRE, rfl⟩) (St.le_of (by simp) (by simp) rfl (by simp)) ?_
            intro m st hst
            obtain ⟨i5, acc, hfi, hit, rfl, hacc, hac0, hR5, rfl⟩ := (hH _ _).1 hst
            clear hst
            rcases Nat.lt_or_ge i5 t with hlt5 | hge5
            · obtain ⟨l5, hx5⟩ : ∃ l, C[i5]? = some l := ⟨_, List.getElem?_eq_getElem (by omega)⟩
              have ea5 := strAt hx5
              have hlen5 := hCm l5 (List.mem_of_getElem? hx5)
              have hi5L : i5 < L.length := by omega
              have w5 : IntKind.i64.wrap ((i5 : Int) + 1) = (i5 + 1 : Nat) := by rw [wrap64 (by omega) (by omega)]; rfl
              have hd5 : (C.take t).drop i5 = l5 :: (C.take t).drop (i5 + 1) := by
                have hlt6 : i5 < (C.take t).length := by rw [List.length_take]; omega
                rw [List.drop_eq_getElem_cons hlt6, List.getElem_take, (List.getElem?_eq_some_iff.1 hx5).2]
              have hne5 : i5 + 1 ≠ f := by omega
              by_cases hif : i5 = f
              · have hacc0 := hac0 hif
                subst hacc0
                rw [if_pos hif, ← hif, hd5, joinL_cons] at hR5
                have hnf : ¬ f < i5 := by omega
                simp -implicitDefEqProofs [hlt5, hnf, ea5, hi5L, w5]
                exact ⟨by omega, by unfold maxLen; omega, by omega, t - (i5 + 1), by omega, _, St.le_of (by simp) (by simp [St.trunc, look, mapV, mapC, killP, byteCells_encB]) rfl (by simp [St.trunc, mapC]), (hH _ _).2 ⟨i5 + 1, l5, by omega, by omega, rfl, by omega, fun h => absurd h hne5, by rw [if_neg hne5]; exact hR5, rfl⟩⟩
              · rw [if_neg hif, hd5, joinR] at hR5
                have hff : f < i5 := by omega
                simp -implicitDefEqProofs [hlt5, hff, ea5, hi5L, w5]
                rw [show acc.length + 1 + l5.length = acc.length + (l5.length + 1) by omega]
                exact ⟨by unfold maxLen; omega, by omega, by omega, by unfold maxLen; omega, by omega, t - (i5 + 1), by omega, _, St.le_of (by simp) (by simp [St.trunc, look, mapV, mapC, killP, byteCells_encB]) rfl (by simp [St.trunc, mapC]), (hH _ _).2 ⟨i5 + 1, acc ++ 10 :: l5, by omega, by omega, rfl, by simp only [List.length_append, List.length_cons]; omega, fun h => absurd h hne5, by rw [if_neg hne5, ← hR5]; simp, rfl⟩⟩
            · have hte : i5 = t := by omega
              have hn5 : ¬ i5 < t := by omega
              simp -implicitDefEqProofs [hn5]
              have hRa : R = acc := by
                by_cases hif : i5 = f
                · rw [if_pos hif] at hR5
                  have h0 : (C.take t).drop f = [] := List.drop_eq_nil_of_le (by rw [List.length_take]; omega)
                  rw [h0] at hR5; rw [hac0 hif, ← hR5]; rfl
                · rw [if_neg hif, List.drop_eq_nil_of_le (by rw [List.length_take]; omega), joinR] at hR5
                  rw [← hR5]; simp
              exact ⟨by unfold maxLen; omega, hRa⟩
        · have hn3 : ¬ f < t := by omega
          obtain ⟨l2, hx3⟩ : ∃ l, C[(IntKind.i64.wrap ((t : Int) - 1)).toNat]? = some l := ⟨_, List.getElem?_eq_getElem (by rw [wrap64 (by omega) (by omega)]; omega)⟩
          have ea3 := strAt hx3
          simp -implicitDefEqProofs [hn3, lend_strs, hCl, ea3]
          refine callK_still (r := .int .i64 0) (fun h => absurd h (by simp)) ?_
          simp -implicitDefEqProofs [hn3, lend_strs, hCl, ea3]
          have hRE : joinL ((C.take t).drop f) = R := by
            have : (C.take t).drop f = [] := List.drop_eq_nil_of_le (by rw [List.length_take]; omega)
            rw [this] at htR ⊢; rw [← htR, dropR_nil]
          intros
          obtain ⟨H, hH⟩ : ∃ H : Nat → St → Prop, ∀ m st, H m st ↔ ∃ (i : Nat) (acc : Bs), f ≤ i ∧ i ≤ t ∧ m = t - i ∧ acc.length ≤ 200000 * i ∧ (i = f → acc = []) ∧ (if i = f then joinL ((C.take t).drop f) else acc ++ joinR ((C.take t).drop i)) = R ∧
            st = { env := [(0, .str s), (2, .str []), (3, .nam y0 (.sl (.ex 9) L.length (C.map AC.str))), (9, .int .i64 f), (10, .int .i64 t), (11, .sl (.of 5) acc.length (encB acc)), (12, .int .i64 i)], loc := [], K := [] :: K } := ⟨_, fun _ _ => Iff.rfl⟩
          refine wC_loopI H (t - f) ((hH _ _).2 ⟨f, [], Nat.le_refl _, hft, rfl, by simp, fun _ => rfl, by rw [if_pos rfl]; exact hRE, rfl⟩) (St.le_of (by simp) (by simp) rfl (by simp)) ?_
          intro m st hst
          obtain ⟨i5, acc, hfi, hit, rfl, hacc, hac0, hR5, rfl⟩ := (hH _ _).1 hst
          clear hst
          rcases Nat.lt_or_ge i5 t with hlt5 | hge5
          · obtain ⟨l5, hx5⟩ : ∃ l, C[i5]? = some l := ⟨_, List.getElem?_eq_getElem (by omega)⟩
            have ea5 := strAt hx5
            have hlen5 := hCm l5 (List.mem_of_getElem? hx5)
            have hi5L : i5 < L.length := by omega
            have w5 : IntKind.i64.wrap ((i5 : Int) + 1) = (i5 + 1 : Nat) := by rw [wrap64 (by omega) (by omega)]; rfl
            have hd5 : (C.take t).drop i5 = l5 :: (C.take t).drop (i5 + 1) := by
              have hlt6 : i5 < (C.take t).length := by rw [List.length_take]; omega
              rw [List.drop_eq_getElem_cons hlt6, List.getElem_take, (List.getElem?_eq_some_iff.1 hx5).2]
            have hne5 : i5 + 1 ≠ f := by omega
            by_cases hif : i5 = f
            · have hacc0 := hac0 hif
              subst hacc0
              rw [if_pos hif, ← hif, hd5, joinL_cons] at hR5
              have hnf : ¬ f < i5 := by omega
              simp -implicitDefEqProofs [hlt5, hnf, ea5, hi5L, w5]
              exact ⟨by omega, by unfold maxLen; omega, by omega, t - (i5 + 1), by omega, _, St.le_of (by simp) (by simp [St.trunc, look, mapV, mapC, killP, byteCells_encB]) rfl (by simp [St.trunc, mapC]), (hH _ _).2 ⟨i5 + 1, l5, by omega, by omega, rfl, by omega, fun h => absurd h hne5, by rw [if_neg hne5]; exact hR5, rfl⟩⟩
            · rw [if_neg hif, hd5, joinR] at hR5
              have hff : f < i5 := by omega
              simp -implicitDefEqProofs [hlt5, hff, ea5, hi5L, w5]
              rw [show acc.length + 1 + l5.length = acc.length + (l5.length + 1) by omega]
              exact ⟨by unfold maxLen; omega, by omega, by omega, by unfold maxLen; omega, by omega, t - (i5 + 1), by omega, _, St.le_of (by simp) (by simp [St.trunc, look, mapV, mapC, killP, byteCells_encB]) rfl (by simp [St.trunc, mapC]), (hH _ _).2 ⟨i5 + 1, acc ++ 10 :: l5, by omega, by omega, rfl, by simp only [List.length_append, List.length_cons]; omega, fun h => absurd h hne5, by rw [if_neg hne5, ← hR5]; simp, rfl⟩⟩
          · have hte : i5 = t := by omega
            have hn5 : ¬ i5 < t := by omega
            simp -implicitDefEqProofs [hn5]
            have hRa : R = acc := by
              by_cases hif : i5 = f
              · rw [if_pos hif] at hR5
                have h0 : (C.take t).drop f = [] := List.drop_eq_nil_of_le (by rw [List.length_take]; omega)
                rw [h0] at hR5; rw [hac0 hif, ← hR5]; rfl
              · rw [if_neg hif, List.drop_eq_nil_of_le (by rw [List.length_take]; omega), joinR] at hR5
                rw [← hR5]; simp
            exact ⟨by unfold maxLen; omega, hRa⟩
end Go.Proofs.YtkefgpmnimpcdaaGreatDoor.Abs
/- A text in a block: the reference. No condition. -/
set_option linter.unusedVariables false
set_option linter.unusedSimpArgs false
namespace Go.Proofs.YtkefgpmnimpcdaaGreatDoor.Abs
open Go
set_option maxHeartbeats 2000000
set_option maxRecDepth 100000
def isCtl (b : UInt8) : Bool := decide ((b.toNat : Int) < 32) && (!decide (b = 9) && (!decide (b = 10) && !decide (b = 13)))
/-- What stands in a block from a place on. -/
def rawG : Nat → Bs → Nat → Option Bs
  | 0, _, _ => some []
  | n + 1, s, i => if s.length ≤ i + 3 then some [] else if isCtl (s.getD i 0) then none else if escThree s i then rawG n s (i + 1) else (rawG n s (i + 1)).map (s.getD i 0 :: ·)
def blkText (s : Bs) : Bs × Bool :=
  if 1000 < s.length ∨ blkEnd s 0 ≠ s.length ∨ textOk s = false then ([], false) else match rawG (s.length + 1) s 3 with
    | none => ([], false)
    | some r => if 200 < (blockV r).length then ([], false) else (blockV r, true)
theorem c_BlockTextS (s : Bs) (hs : s.length ≤ 100000000) (K) : Ct Tryz.prog 142 [.str s] K (.tup [.str (blkText s).1, .bool (blkText s).2]) K := by
  have hB := fun K => c_BlockEndS s 0 hs (by omega) K
  have hT := fun K => c_TextOkS s K (by omega)
  have th := fun (i : Nat) (h : i ≤ 1000000000) K => c_l05Three s i (by omega) h K
  generalize hR : blkText s = R
  unfold blkText at hR
  refine ct_fn { n0 := 7, ex := [], tk := [12, 19, 22, 60, 62, 66, 67, 70, 74] } Tryz.func142 rfl (by kernel_rfl) (by kernel_rfl) rfl ?_
  simp -implicitDefEqProofs [Tryz.f142]
  by_cases hl : 1000 < s.length
  · have hl2 : (1000 : Int) < s.length := by omega
    rw [if_pos (.inl hl)] at hR
    subst hR
    simp -implicitDefEqProofs [hl, hl2]
    intro _
    refine callK_still (r := .int .i64 0) (fun h => absurd h (by simp)) ?_
    simp -implicitDefEqProofs
    refine callK_still (r := .bool false) (fun h => absurd h (by simp)) ?_
    simp -implicitDefEqProofs
  · have hl2 : ¬ (1000 : Int) < s.length := by omega
    simp -implicitDefEqProofs [hl, hl2]
    intro _
    refine callK_still (fun _ => hB _) ?_
    generalize hE : blkEnd s 0 = E at *
    by_cases hes : E = s.length
    · subst hes
      simp -implicitDefEqProofs [hl, hl2]
      intro _
      refine callK_still (fun _ => hT _) ?_
      cases htx : textOk s with
      | false =>
        rw [if_pos (.inr (.inr htx))] at hR
        subst hR
        simp -implicitDefEqProofs
      | true =>
        rw [if_neg (by simp [hl, htx])] at hR
        have hbn := blkEnd_bnd s 0
        have h6 : 6 ≤ s.length := by omega
        have wl : IntKind.i64.wrap ((s.length : Int) - 3) = (s.length : Int) - 3 := wrap64 (by omega) (by omega)
        simp -implicitDefEqProofs
        obtain ⟨I, hI⟩ : ∃ I : Nat → St → Prop, ∀ m st, I m st ↔ ∃ (i n : Nat) (acc : Bs), 3 ≤ i ∧ i + 3 ≤ s.length ∧ m = s.length - i ∧ acc.length ≤ i ∧ s.length - i ≤ n ∧ (match (rawG (n + 1) s i).map (acc ++ ·) with
            | none => ([], false)
            | some r => if 200 < (blockV r).length then ([], false) else (blockV r, true)) = R ∧
          st = { env := [(0, .str s), (2, .str []), (3, .bool false), (4, .sl (.of 5) acc.length (encB acc)), (5, .int .i64 i)], loc := [], K := [] :: K } := ⟨_, fun _ _ => Iff.rfl⟩
        refine wC_loopI I (s.length - 3) ((hI _ _).2 ⟨3, s.length, [], by omega, by omega, rfl, by simp, by omega, by simpa using hR, rfl⟩) (St.le_of (by simp) (by simp) rfl (by simp)) ?_
        intro m st hst
        obtain ⟨i, n, acc, hi3, hi, rfl, hacc, hn, hRi, rfl⟩ := (hI _ _).1 hst
        clear hst
        rw [rawG] at hRi
        by_cases hlt : s.length ≤ i + 3
        · have hn2 : ¬ (i : Int) < (s.length : Int) - 3 := by omega
          rw [if_pos hlt] at hRi
          simp -implicitDefEqProofs [wl, hn2]
          simp only [Option.map_some, List.append_nil] at hRi
          refine fun _ => ⟨by unfold maxLen; omega, callK_of (c_BlockValueS acc (by omega) _) ?_⟩
          generalize blockV acc = V at *
          by_cases h200 : 200 < V.length
          · have h2 : (200 : Int) < V.length := by omega
            rw [if_pos h200] at hRi
            subst hRi
            simp -implicitDefEqProofs [h200, h2]
          · have h2 : ¬ (200 : Int) < V.length := by omega
            rw [if_neg h200] at hRi
            subst hRi
            simp -implicitDefEqProofs [h200, h2]
        · have hlt2 : (i : Int) < (s.length : Int) - 3 := by omega
          obtain ⟨b, hx⟩ : ∃ b, s[i]? = some b := ⟨_, List.getElem?_eq_getElem (by omega)⟩
          have hxe : s[i]'(by omega) = b := (List.getElem?_eq_some_iff.1 hx).2
          rw [if_neg hlt] at hRi
          simp -implicitDefEqProofs [wl, hlt2, hx, hxe]
          have w1 : IntKind.i64.wrap ((i : Int) + 1) = (i + 1 : Nat) := by rw [wrap64 (by omega) (by omega)]; rfl
          have b9 : (b.toNat : Int) = 9 ↔ b = 9 := u8_eq (c := 9)
          have b10 : (b.toNat : Int) = 10 ↔ b = 10 := u8_eq (c := 10)
          have b13 : (b.toNat : Int) = 13 ↔ b = 13 := u8_eq (c := 13)
          have b92 : (b.toNat : Int) = 92 ↔ b = 92 := u8_eq (c := 92)
          have hg : s.getD i 0 = b := by rw [List.getD_eq_getElem?_getD, hx]; rfl
          rw [hg, escThree_eq, hx] at hRi
          refine fun _ => ⟨by omega, fun _ => by omega, fun _ _ => by omega, fun _ _ _ => by omega, fun h1 h2 h3 h4 => ?_, fun h => ⟨by omega, ?_⟩⟩
          · have hc : isCtl b = true := by
              unfold isCtl
              rw [decide_eq_true h1, decide_eq_false (fun e => h2 (b9.2 e)), decide_eq_false (fun e => h3 (b10.2 e)), decide_eq_false (fun e => h4 (b13.2 e))]; rfl
            rw [hc, if_pos rfl] at hRi
            subst hRi
            exact ⟨rfl, rfl⟩
          · have hc : isCtl b = false := by
              cases hq : isCtl b with
              | false => rfl
              | true =>
                exfalso
                unfold isCtl at hq
                simp only [Bool.and_eq_true, decide_eq_true_eq, Bool.not_eq_true', decide_eq_false_iff_not] at hq
                exact hq.2.2.2 (b13.1 (h hq.1 (fun e => hq.2.1 (b9.1 e)) (fun e => hq.2.2.1 (b10.1 e))))
            rw [hc, if_neg (by simp)] at hRi
            rw [w1]
            refine callK_still (fun _ => th (i + 1) (by omega) _) ?_
            cases h3 : three s (i + 1) with
            | true =>
              rw [h3] at hRi
              by_cases h92 : b = 92
              · simp -implicitDefEqProofs [b92, h92, w1, hx, hxe]
                exact ⟨s.length - (i + 1), by omega, _, St.le_of (by simp) (by simp [St.trunc, look, mapV, mapC, killP]) rfl (by simp [St.trunc, mapC]), (hI _ _).2 ⟨i + 1, n - 1, acc, by omega, by omega, rfl, by omega, by omega, by rw [show n - 1 + 1 = n by omega]; simpa [h92] using hRi, rfl⟩⟩
              · simp -implicitDefEqProofs [b92, h92, w1, hx, hxe]
                exact ⟨by omega, by unfold maxLen; omega, by omega, s.length - (i + 1), by omega, _, St.le_of (by simp) (by simp [St.trunc, look, mapV, mapC, killP]) rfl (by simp [St.trunc, mapC]), (hI _ _).2 ⟨i + 1, n - 1, acc ++ [b], by omega, by omega, rfl, by simp; omega, by omega, by
                  rw [show n - 1 + 1 = n by omega]
                  have e : ∀ o : Option Bs, (o.map (b :: ·)).map (acc ++ ·) = o.map (acc ++ [b] ++ ·) := by intro o; cases o <;> simp
                  rw [← e]; simpa [h92] using hRi, rfl⟩⟩
            | false =>
              rw [h3] at hRi
              simp -implicitDefEqProofs [w1, hx, hxe]
              exact ⟨by omega, by unfold maxLen; omega, by omega, s.length - (i + 1), by omega, _, St.le_of (by simp) (by simp [St.trunc, look, mapV, mapC, killP]) rfl (by simp [St.trunc, mapC]), (hI _ _).2 ⟨i + 1, n - 1, acc ++ [b], by omega, by omega, rfl, by simp; omega, by omega, by
                rw [show n - 1 + 1 = n by omega]
                have e : ∀ o : Option Bs, (o.map (b :: ·)).map (acc ++ ·) = o.map (acc ++ [b] ++ ·) := by intro o; cases o <;> simp
                rw [← e]; simpa using hRi, rfl⟩⟩
    · rw [if_pos (.inr (.inl hes))] at hR
      subst hR
      simp -implicitDefEqProofs [hes]
      intro _
      refine callK_still (r := .bool false) (fun h => absurd h (by simp)) ?_
      simp -implicitDefEqProofs
end Go.Proofs.YtkefgpmnimpcdaaGreatDoor.Abs
