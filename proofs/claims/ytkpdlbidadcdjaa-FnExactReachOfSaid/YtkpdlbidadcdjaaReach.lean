/- What can be reached: the program's function and the reference's. No condition. -/
import Derived.Test.YtkpdlbidadcdjaaReachP
import Derived.Test.YtkpdlbidadcdjaaL18
set_option linter.unusedVariables false
set_option linter.unusedSimpArgs false
namespace Go.Proofs.Ytkpdlbidadcdjaa.Abs
open Go
set_option maxHeartbeats 1000000
set_option maxRecDepth 100000
theorem wRun_drawQ0 {P : Program} {fi : FI} {k : St → Prop} {st : St} {ops : Array Oper} (qr : List (Nat × AC)) (qs : List Nat) (hm : P.follows .mixedOrders = true) (hck : drawOk { fi with es := false, bw := [], qs := qs } false ops.toList = true)
    (h : wOpsD P { fi with es := false, bw := [], qs := qs, qr := qr } false ops.toList ops.toList (drawE k) st) : wRun P fi ops true k st :=
  ⟨fun _ => ⟨hm, false, qs, qr, hck, h⟩, fun e => by cases e⟩
theorem c_put (fs : List DFrag) (out ns : List Bs) (K0) (hn : ns.length ≤ 100000) (ho : out.length ≤ 1000000) : Ct Try.prog 25 [.sl .no ns.length (encR .no (tStrS ns)), .ptr 0 0 0, .ptr 0 1 0]
    ([[.sl .no fs.length (encR .no (tFragS fs))], [.sl (.of 9) out.length (encR .of (tStrS out))]] :: K0) (.tup [])
    ([[.sl .no fs.length (encR .no (tFragS fs))], [.sl (.of 9) (putN (hasF fs) out ns).length (encR .of (tStrS (putN (hasF fs) out ns)))]] :: K0) := by
  refine ct_fn { n0 := 6, ex := [6, 7, 8], tk := [14, 19, 22, 24, 25] } Try.func25 rfl (by kernel_rfl) (by kernel_rfl) rfl ?_
  simp -implicitDefEqProofs [Try.f25]
  intro h1
  obtain ⟨I, hI⟩ : ∃ I : Nat → St → Prop, ∀ m s, I m s ↔ ∃ (i : Nat) (o : List Bs), i ≤ ns.length ∧ m = ns.length - i ∧ o = putN (hasF fs) out (ns.take i) ∧
    s = { env := [(0, .sl .no ns.length (encR .no (tStrS ns))), (1, .ptr 1 0 0), (2, .ptr 1 1 0), (6, .sl .no ns.length (encR .no (tStrS ns))), (7, .int .i64 ns.length), (8, .int .i64 i)], loc := [],
          K := [] :: [[.sl .no fs.length (encR .no (tFragS fs))], [.sl (.of 9) o.length (encR .of (tStrS o))]] :: K0 } := ⟨_, fun _ _ => Iff.rfl⟩
  refine wC_loopI I ns.length ((hI _ _).2 ⟨0, out, by omega, rfl, rfl, rfl⟩) (St.le_of (by simp) (by simp) rfl (by simp)) ?_
  intro m s hm
  obtain ⟨i, o, hi, rfl, ho2, rfl⟩ := (hI _ _).1 hm
  have hol := putN_len (has := hasF fs) (ns := ns.take i) (out := out)
  rw [← ho2, List.length_take, Nat.min_eq_left hi] at hol
  rcases Nat.lt_or_ge i ns.length with hlt | hge
  · obtain ⟨x, hx⟩ : ∃ x, ns[i]? = some x := ⟨_, List.getElem?_eq_getElem hlt⟩
    have ea := atStr (m := .no) hx
    simp only [Nat.mul_one, encL, encT] at ea
    have hnx := putN_take (has := hasF fs) (out := out) hx
    rw [← ho2] at hnx
    have wi : IntKind.i64.wrap ((i : Int) + 1) = (i + 1 : Nat) := by rw [wrap64 (by omega) (by omega)]; rfl
    simp -implicitDefEqProofs [hlt, ea, encStrS_len, wi]
    refine callK_of (c_FragAt fs x _) ?_
    simp -implicitDefEqProofs [wi]
    refine callK_still (fun _ => c_ContainsStr o x _) ?_
    simp -implicitDefEqProofs [wi]
    refine ⟨fun h2 h3 => ⟨by unfold maxLen; omega, by omega, ?_⟩, fun h2 => ?_⟩
    · rw [if_pos ⟨by simp [hasF, h2], h3⟩] at hnx
      rw [← encStr_app]
      exact ⟨ns.length - (i + 1), by omega, _, St.le_of (by simp) (by simp [St.trunc, look, mapV, mapC, killP]) rfl (by simp [St.trunc, mapC]), (hI _ _).2 ⟨i + 1, o ++ [x], by omega, rfl, hnx.symm, rfl⟩⟩
    · rw [if_neg (fun h => h.2 (h2 (by simpa [hasF] using h.1)))] at hnx
      exact ⟨ns.length - (i + 1), by omega, _, St.le_of (by simp) (by simp [St.trunc, look, mapV, mapC, killP]) rfl (by simp [St.trunc, mapC]), (hI _ _).2 ⟨i + 1, o, by omega, rfl, hnx.symm, rfl⟩⟩
  · have e : i = ns.length := by omega
    subst e
    rw [List.take_of_length_le (Nat.le_refl _)] at ho2
    subst ho2
    simp -implicitDefEqProofs
theorem c_ReachOf0 (fs : List DFrag) (list : List DSel) (h1 : fs.length + szR (tFragS fs) ≤ 1048576) (h2 : list.length + szR (tSelS list) ≤ 1048576) :
    Ct Try.prog 9 [.sl .no fs.length (encR .no (tFragS fs)), .sl .no list.length (encR .no (tSelS list))] [] (.sl (.ex 9) (reach fs list).length (encR .of (tStrS (reach fs list)))) [] := by
  generalize hr : reach fs list = r
  unfold reach at hr
  refine ct_fn { n0 := 8, ex := [36], tk := [11, 16, 30, 35, 37, 38], kp := [36, 38], es := true, bw := [29], th := [10] } Try.func9 rfl (by kernel_rfl) (by kernel_rfl) rfl ?_ (.inr ⟨rfl, rfl⟩)
  simp -implicitDefEqProofs [Try.f9]
  intro hml
  refine ⟨fun h => ?_, fun h => ?_⟩
  · rw [if_pos (by omega)] at hr
    subst hr
    simp [tStrS, encR]
  · rw [if_neg (by omega)] at hr
    have hsl := spreads_len list
    refine callK_of (c_SpreadsIn list _ h2) ?_
    simp -implicitDefEqProofs
    have hp := c_put fs [] (spreads list) [] (by omega) (by simp)
    simp only [List.length_nil] at hp
    refine callK_of hp ?_
    clear hp
    have h0 := reach_start fs list
    have hlO := reachO_len fs list
    have hh0 : ∀ x ∈ putN (hasF fs) [] (spreads list), hasF fs x = true := putN_has (by simp)
    generalize putN (hasF fs) [] (spreads list) = out0 at *
    simp -implicitDefEqProofs
    obtain ⟨I, hI⟩ : ∃ I : Nat → St → Prop, ∀ m s, I m s ↔ ∃ (i : Nat) (o : List Bs), i ≤ o.length ∧ m = (reachO fs list).length - i ∧ RI (hasF fs) (spF fs) i o (reachO fs list) ∧ (∀ x ∈ o, hasF fs x = true) ∧
      s = { env := [(0, .sl .no fs.length (encR .no (tFragS fs))), (1, .sl .no list.length (encR .no (tSelS list))), (2, .ptr 0 0 0), (4, .sl .nil 0 []), (5, .ptr 0 1 0), (6, .fn 25 [.ptr 0 0 0, .ptr 0 1 0]), (7, .int .i64 i)], loc := [],
            K := [[.sl .no fs.length (encR .no (tFragS fs))], [.sl (.of 9) o.length (encR .of (tStrS o))]] :: [] } := ⟨_, fun _ _ => Iff.rfl⟩
    refine wC_loopI I (reachO fs list).length ((hI _ _).2 ⟨0, out0, by omega, rfl, h0, hh0, rfl⟩) (St.le_of (by simp) (by simp) rfl (by simp)) ?_
    intro m s hm
    obtain ⟨i, o, hi, rfl, hri, hho, rfl⟩ := (hI _ _).1 hm
    have hle := hri.le
    rcases Nat.lt_or_ge i o.length with hlt | hge
    · obtain ⟨x, hx⟩ : ∃ x, o[i]? = some x := ⟨_, List.getElem?_eq_getElem hlt⟩
      have ea := atStr (m := .no) hx
      simp only [Nat.mul_one, encL, encT] at ea
      have hst := hri.step hx
      have hxh : 0 ≤ fragAt fs x := by have := hho x (List.mem_of_getElem? hx); simpa [hasF] using this
      have wi : IntKind.i64.wrap ((i : Int) + 1) = (i + 1 : Nat) := by rw [wrap64 (by omega) (by omega)]; rfl
      obtain ⟨j, f, ej, hjl, hf, hfs⟩ := fragAt_get hxh
      have eaf := atFrag (m := .no) hf
      have hsz := fragSels_sz (n := x) h1
      have hspl := spreads_len (fragSels fs x)
      have hpl := putN_len (has := hasF fs) (ns := spF fs x) (out := o)
      have hq := c_put fs o (spF fs x) [] (by unfold spF; omega) (by omega)
      have hho2 : ∀ y ∈ putN (hasF fs) o (spF fs x), hasF fs y = true := putN_has hho
      have hle2 := hst.le
      have hS := fun K => c_SpreadsIn (fragSels fs x) K hsz
      have espF : spF fs x = spreads f.sels := by unfold spF; rw [hfs]
      rw [espF] at hq hst hho2 hle2 hpl
      rw [hfs] at hS hspl
      obtain ⟨x0, x1, x2, x3⟩ := f
      dsimp only at hS hq hst hho2 hle2 hspl hpl
      simp only [tFrag, encL_app, encL, encT, List.cons_append, List.nil_append, Md.ow_no, tSelS_len, tDirS_len] at eaf
      simp -implicitDefEqProofs [hlt, ea, encStrS_len, wi]
      intro hm1
      refine wRun_drawQ0 [(30, .int .i64 j), (34, .sl (.of 9) (spreads x3).length (encR .of (tStrS (spreads x3))))] [30, 34] rfl (by decide +kernel) ?_
      simp -implicitDefEqProofs [hlt, ea, encStrS_len, wi, hjl, eaf, encFragS_len]
      rw [← ej]
      refine quietK_of (fun K => c_FragAt fs x K) ?_
      refine quietK_of hS ?_
      refine callK_of hq ?_
      simp -implicitDefEqProofs [wi]
      exact ⟨(reachO fs list).length - (i + 1), by omega, _, St.le_of (by simp) (by simp [St.trunc, look, mapV, mapC, killP]) rfl (by simp [St.trunc, mapC]), (hI _ _).2 ⟨i + 1, putN (hasF fs) o (spreads x3), hle2.2, rfl, hst, hho2, rfl⟩⟩
    · have e : i = o.length := by omega
      subst e
      have e2 := hri.end (Nat.le_refl _)
      rw [e2] at hr
      rw [e2] at hlO
      simp -implicitDefEqProofs [encStr']
      intro _ z
      have hs := c_Sort o [[[.undef], [.als 36 none z none]]] (by omega)
      rw [encStr'] at hs
      refine endB_of hs (by simp) ?_
      simp -implicitDefEqProofs [encStr', srt_len]
      rw [← hr, srt_len]
      exact .refl
theorem c_ReachOf (fs : List DFrag) (list : List DSel) (K) (h1 : fs.length + szR (tFragS fs) ≤ 1048576) (h2 : list.length + szR (tSelS list) ≤ 1048576) :
    Ct Try.prog 9 [.sl .no fs.length (encR .no (tFragS fs)), .sl .no list.length (encR .no (tSelS list))] K (.sl (.ex 9) (reach fs list).length (encR .of (tStrS (reach fs list)))) K :=
  (c_ReachOf0 fs list h1 h2).frame rfl rfl K
theorem c_ReachOfS (fs : List DFrag) (list : List DSel) (K) (h1 : fs.length + szR (tFragS fs) ≤ 1048576) (h2 : list.length + szR (tSelS list) ≤ 1048576) :
    Ct Try.prog 6 [.sl .no fs.length (encR .no (tFragS fs)), .sl .no list.length (encR .no (tSelS list))] K (.sl (.of 9) (reach fs list).length (encR .of (tStrS (reach fs list)))) K := by
  generalize hr : reach fs list = r
  unfold reach at hr
  refine ct_fn { n0 := 11, ex := [], tk := [11, 15, 17, 29, 32, 37, 38, 44, 56, 58, 63, 64, 66] } Try.func6 rfl (by kernel_rfl) (by kernel_rfl) rfl ?_
  simp -implicitDefEqProofs [Try.f6]
  intro hml
  refine ⟨fun h => ?_, fun h => ?_⟩
  · rw [if_pos (by omega)] at hr
    subst hr
    simp [tStrS, encR]
  · rw [if_neg (by omega)] at hr
    have hsl := spreads_len list
    refine callK_of (c_SpreadsInS list _ h2) ?_
    obtain ⟨h0, hnd, hwl⟩ := reachW_ok fs list
    generalize hw : reachW fs list = w at *
    generalize spreads list = next0 at *
    simp -implicitDefEqProofs
    obtain ⟨I, hI⟩ : ∃ I : Nat → St → Prop, ∀ m s, I m s ↔ ∃ (i : Nat) (o : List Bs), i ≤ o.length ∧ m = w.length - i ∧ RS (hasF fs) (spF fs) i o w ∧ 
      s = { env := [(0, .sl .no fs.length (encR .no (tFragS fs))), (1, .sl .no list.length (encR .no (tSelS list))), (4, .sl .nil 0 []), (5, .sl (.of 9) ((o.take i).filter (hasF fs)).length (encR .of (tStrS ((o.take i).filter (hasF fs))))), (6, .sl (.of 9) o.length (encR .of (tStrS o))), (7, .int .i64 i)], loc := [],
            K := [] :: K } := ⟨_, fun _ _ => Iff.rfl⟩
    refine wC_loopI I w.length ((hI _ _).2 ⟨0, next0, by omega, rfl, h0, rfl⟩) (St.le_of (by simp) (by simp [tStrS, encR]) rfl (by simp)) ?_
    intro m s hm
    obtain ⟨i, o, hi, rfl, hri, rfl⟩ := (hI _ _).1 hm
    have hle := hri.le
    rcases Nat.lt_or_ge i o.length with hlt | hge
    · obtain ⟨x, hx⟩ : ∃ x, o[i]? = some x := ⟨_, List.getElem?_eq_getElem hlt⟩
      have ea := atStr (m := .no) hx
      simp only [Nat.mul_one, encL, encT] at ea
      have hst := hri.step hx
      have wi : IntKind.i64.wrap ((i : Int) + 1) = (i + 1 : Nat) := by rw [wrap64 (by omega) (by omega)]; rfl
      have hft : (o.take (i + 1)).filter (hasF fs) = (o.take i).filter (hasF fs) ++ (if hasF fs x = true then [x] else []) := by
        rw [List.take_add_one, hx, List.filter_append]
        cases hb : hasF fs x <;> simp [hb]
      have hfl : ((o.take i).filter (hasF fs)).length ≤ i := Nat.le_trans (List.length_filter_le _ _) (by rw [List.length_take]; omega)
      by_cases hxh : 0 ≤ fragAt fs x
      · obtain ⟨j, f, ej, hjl, hf, hfs⟩ := fragAt_get hxh
        have hx1 : hasF fs x = true := by simp [hasF, hxh]
        have hst2 : RS (hasF fs) (spF fs) (i + 1) (putN (fun _ => true) o (spF fs x)) w := by
          rcases hst with ⟨h9, _⟩ | ⟨_, h9⟩
          · rw [hx1] at h9; cases h9
          · exact h9
        rw [if_pos hx1] at hft
        have eaf := atFrag (m := .no) hf
        have hsz := fragSels_sz (n := x) h1
        have hspl := spreads_len (fragSels fs x)
        have espF : spF fs x = spreads f.sels := by unfold spF; rw [hfs]
        rw [espF] at hst2
        rw [hfs] at hsz hspl
        obtain ⟨x0, x1, x2, x3⟩ := f
        dsimp only at hsz hst2 hspl
        simp only [tFrag, encL_app, encL, encT, List.cons_append, List.nil_append, Md.ow_no, tSelS_len, tDirS_len] at eaf
        have hF := c_FragAtS fs x ([] :: K)
        rw [ej] at hF
        simp -implicitDefEqProofs [hlt, ea, encStrS_len, wi]
        intro hm1
        refine callK_of hF ?_
        simp -implicitDefEqProofs [hlt, ea, encStrS_len, wi, hjl, eaf, encFragS_len]
        refine ⟨fun h => by omega, by unfold maxLen; omega, by omega, ?_⟩
        refine callK_of (c_SpreadsInS x3 _ hsz) ?_
        generalize hF2 : (o.take i).filter (hasF fs) = F at *
        clear espF hfs
        generalize spreads x3 = more at *
        simp -implicitDefEqProofs
        obtain ⟨J, hJ⟩ : ∃ J : Nat → St → Prop, ∀ m s, J m s ↔ ∃ (k : Nat) (q : List Bs), k ≤ more.length ∧ m = more.length - k ∧ q = putN (fun _ => true) o (more.take k) ∧
          s = { env := [(0, .sl .no fs.length (encR .no (tFragS fs))), (1, .sl .no list.length (encR .no (tSelS list))), (4, .sl .nil 0 []), (5, .sl (.of 9) (F.length + 1) (encR .of (tStrS F) ++ [.str x])), (6, .sl (.of 9) q.length (encR .of (tStrS q))), (7, .int .i64 i), (8, .int .i64 j), (9, .sl (.of 9) more.length (encR .of (tStrS more))), (10, .int .i64 k)], loc := [],
                K := [] :: K } := ⟨_, fun _ _ => Iff.rfl⟩
        refine wC_loopI J more.length ((hJ _ _).2 ⟨0, o, by omega, rfl, rfl, rfl⟩) (St.le_of (by simp) (by simp) rfl (by simp)) ?_
        intro m2 s2 hm2
        obtain ⟨k, q, hk, rfl, hq, rfl⟩ := (hJ _ _).1 hm2
        have hql := putN_len (has := fun _ => true) (ns := more.take k) (out := o)
        rw [← hq, List.length_take, Nat.min_eq_left hk] at hql
        rcases Nat.lt_or_ge k more.length with hlt2 | hge2
        · obtain ⟨y, hy⟩ : ∃ y, more[k]? = some y := ⟨_, List.getElem?_eq_getElem hlt2⟩
          have eb := atStr (m := .no) hy
          simp only [Nat.mul_one, encL, encT] at eb
          have hnx := putN_take (has := fun _ => true) (out := o) hy
          rw [← hq] at hnx
          have wk : IntKind.i64.wrap ((k : Int) + 1) = (k + 1 : Nat) := by rw [wrap64 (by omega) (by omega)]; rfl
          simp -implicitDefEqProofs [hlt2, eb, encStrS_len, wk]
          intro hm3
          refine callK_of (c_l18Has q y _) ?_
          simp -implicitDefEqProofs [hlt2, eb, encStrS_len, wk]
          refine ⟨fun h3 => ⟨by unfold maxLen; omega, by omega, ?_⟩, fun h3 => ?_⟩
          · rw [if_pos ⟨rfl, h3⟩] at hnx
            exact ⟨more.length - (k + 1), by omega, _, St.le_of (by simp) (by simp [St.trunc, look, mapV, mapC, killP, encStr_app]) rfl (by simp [St.trunc, mapC]), (hJ _ _).2 ⟨k + 1, q ++ [y], by omega, rfl, hnx.symm, rfl⟩⟩
          · rw [if_neg (fun h => h.2 h3)] at hnx
            exact ⟨more.length - (k + 1), by omega, _, St.le_of (by simp) (by simp [St.trunc, look, mapV, mapC, killP]) rfl (by simp [St.trunc, mapC]), (hJ _ _).2 ⟨k + 1, q, by omega, rfl, hnx.symm, rfl⟩⟩
        · have e : k = more.length := by omega
          subst e
          rw [List.take_of_length_le (Nat.le_refl _)] at hq
          subst hq
          simp -implicitDefEqProofs [wi]
          intro _
          obtain ⟨t, ht⟩ := putN_pre (has := fun _ => true) (ns := more) (out := o)
          have htk : (putN (fun _ => true) o more).take (i + 1) = o.take (i + 1) := by rw [ht, List.take_append_of_le_length (by omega)]
          have hle3 := hst2.le
          exact ⟨w.length - (i + 1), by omega, _, St.le_of (by simp) (by simp [St.trunc, look, mapV, mapC, killP, htk, hft, encStr_app]) rfl (by simp [St.trunc, mapC]), (hI _ _).2 ⟨i + 1, putN (fun _ => true) o more, hle3.2, rfl, hst2, rfl⟩⟩
      · have hx1 : hasF fs x = false := by simp [hasF]; omega
        have hst2 : RS (hasF fs) (spF fs) (i + 1) o w := by
          rcases hst with ⟨_, h9⟩ | ⟨h9, _⟩
          · exact h9
          · rw [hx1] at h9; cases h9
        rw [if_neg (by simp [hx1]), List.append_nil] at hft
        simp -implicitDefEqProofs [hlt, ea, encStrS_len, wi]
        intro hm1
        refine callK_of (c_FragAtS fs x _) ?_
        simp -implicitDefEqProofs [wi]
        refine ⟨fun _ => ?_, fun h => absurd h hxh⟩
        exact ⟨w.length - (i + 1), by omega, _, St.le_of (by simp) (by simp [St.trunc, look, mapV, mapC, killP, hft]) rfl (by simp [St.trunc, mapC]), (hI _ _).2 ⟨i + 1, o, by omega, rfl, hst2, rfl⟩⟩
    · have e : i = o.length := by omega
      subst e
      have e2 := hri.end (Nat.le_refl _)
      subst e2
      rw [List.take_of_length_le (Nat.le_refl _)]
      have hrO : reachO fs list = w.filter (hasF fs) := by unfold reachO; rw [hw]
      have hso := srt_sortU (hrO ▸ reachO_nodup fs list)
      rw [hrO, hso] at hr
      have hll := List.length_filter_le (hasF fs) w
      simp -implicitDefEqProofs
      intro _
      refine callK_of (c_l18Sorted _ (w.filter (hasF fs)) _ (Nat.le_refl _) (by omega)) ?_
      rw [hr]
      simp -implicitDefEqProofs
end Go.Proofs.Ytkpdlbidadcdjaa.Abs
