/- strings.IndexRune at a rune beyond ASCII in a text of two ASCII bytes; strings.IndexAny for two ASCII bytes in any text. No condition. -/
import Derived.Shelf.Small.Strs
import Derived.Shelf.Small.Utf8
import Derived.Shelf.Strings.Runes
import Derived.Shelf.Strings.IndexAnyAll
import Derived.Lib.OthersKept
import Derived.Laws.Runes
import Derived.Laws.RangeAny
import Derived.Deep.LoopGhost
import Derived.RegionTactic
import Derived.Deep.QuietTactic
import Derived.ChangeAlike
import Derived.Test.YtkefgpmnimpcdaaGreatDoorTxN
set_option linter.unusedVariables false
set_option linter.unusedSimpArgs false
namespace Go.Proofs.YtkefgpmnimpcdaaGreatDoor.Abs
open Go Go.RowKit
set_option maxHeartbeats 4000000
set_option maxRecDepth 1000000
theorem decodeN_high {n b0 b1 b2 b3 : Nat} (h : 128 ≤ b0) (hn : 0 < n) (h0 : b0 < 256) : 128 ≤ (Lib.decodeN n b0 b1 b2 b3).1 ∧ Utf8.valid ((Lib.decodeN n b0 b1 b2 b3).1 : Nat) = true ∧ (Lib.decodeN n b0 b1 b2 b3).1 ≤ 1114111 ∧ (Lib.decodeN n b0 b1 b2 b3).2 ≤ n ∧
    (2 ≤ (Lib.decodeN n b0 b1 b2 b3).2 → 128 ≤ b1) ∧ (3 ≤ (Lib.decodeN n b0 b1 b2 b3).2 → 128 ≤ b2) ∧ (4 ≤ (Lib.decodeN n b0 b1 b2 b3).2 → 128 ≤ b3) ∧ (Lib.decodeN n b0 b1 b2 b3).2 ≤ 4 := by
  unfold Lib.decodeN
  rw [if_neg (by omega)]
  have hv : ∀ k : Nat, (k < 55296 ∨ (57344 ≤ k ∧ k ≤ 1114111)) → Utf8.valid (k : Nat) = true := fun k hk => by unfold Utf8.valid; simp; omega
  repeat' split
  all_goals (refine ⟨?_, hv _ ?_, ?_, ?_, fun h' => ?_, fun h' => ?_, fun h' => ?_, ?_⟩)
  all_goals (simp only at *)
  all_goals omega
theorem decode_high_bytes (s : ByteArray) (pos : Nat) (hp : pos < s.size) (h : 128 ≤ (s[pos]'hp).toNat) :
    128 ≤ (Utf8.decode s pos).1 ∧ Utf8.valid ((Utf8.decode s pos).1 : Nat) = true ∧ (Utf8.decode s pos).1 ≤ 1114111 ∧ pos + (Utf8.decode s pos).2 ≤ s.size ∧
    ∀ (j : Nat) (x : UInt8), pos ≤ j → j < pos + (Utf8.decode s pos).2 → s.data.toList[j]? = some x → 128 ≤ x.toNat := by
  have hb : ∀ k, (s.get! k).toNat < 256 := fun k => (s.get! k).toNat_lt
  have hg : s.get! pos = s[pos]'hp := get_at s pos hp
  have hd := decodeN_high (n := s.size - pos) (b0 := (s.get! pos).toNat) (b1 := (s.get! (pos + 1)).toNat) (b2 := (s.get! (pos + 2)).toNat) (b3 := (s.get! (pos + 3)).toNat) (by rw [hg]; exact h) (by omega) (hb _)
  rw [← Lib.decode_at] at hd
  obtain ⟨d1, d2, d3, d4, d5, d6, d7, d8⟩ := hd
  refine ⟨d1, d2, d3, by omega, ?_⟩
  intro j x h1 h2 hx
  have hjl : j < s.size := by
    have := (List.getElem?_eq_some_iff.1 hx).1
    rwa [← str_size] at this
  have hgx : s.get! j = x := by
    have := get_at s j hjl
    rw [Nat.add_zero] at this
    rw [this]
    rw [Lib.data_getElem? s j hjl] at hx
    exact Option.some.inj hx
  rw [← hgx]
  have hc : j = pos ∨ j = pos + 1 ∨ j = pos + 2 ∨ j = pos + 3 := by omega
  rcases hc with rfl | rfl | rfl | rfl
  · rw [hg]; exact h
  · exact d5 (by omega)
  · exact d6 (by omega)
  · exact d7 (by omega)
theorem rune_no_err (c0 c1 : UInt8) (h0 : c0.toNat < 128) (h1 : c1.toNat < 128) (w : World) :
    Calls Tryz.prog 221 #[.string ⟨#[c0, c1]⟩, .int .i32 65533] w fun e w' => e = .returned (.int .i64 (-1)) ∧ Below w.heap.size w w' := by
  obtain ⟨s, hs⟩ : ∃ s : ByteArray, (⟨#[c0, c1]⟩ : ByteArray) = s := ⟨_, rfl⟩
  have hsz : s.size = 2 := by rw [← hs]; rfl
  have has : ∀ (i : Nat) (hi : i < s.size), (s[i]'hi).toNat < 128 := by
    subst hs
    intro i hi
    match i, hi with
    | 0, _ => exact h0
    | 1, _ => exact h1
    | i + 2, hi => exact absurd hi (by rw [hsz]; omega)
  rw [hs]
  clear hs h0 h1
  go_enter Tryz.func221, Tryz.ntmps221
  go_wp2
  go_loopg [] s.size (fun g wx => ∃ pos : Nat, wx = w.iter s pos ∧ pos + g = s.size)
  case atStart => exact ⟨0, rfl, by omega⟩
  case round =>
    obtain ⟨pos, rfl, hg⟩ := hrel
    by_cases hp : pos < s.size
    · obtain ⟨g, rfl⟩ : ∃ g, gk = g + 1 := ⟨gk - 1, by omega⟩
      have hnx := fun ty => run_next_ascii (P := Tryz.prog) w s pos ty hp (has pos hp)
      have hne : (s[pos]'hp).toNat < 128 := has pos hp
      generalize (s[pos]'hp).toNat = x at *
      go_wp2
      go_roundg g
      case measure => omega
      case rel => exact ⟨pos + 1, rfl, by omega⟩
    · have hnx := fun ty => run_next_end (P := Tryz.prog) w s pos ty hp
      go_wp2
      go_ret
      exact ⟨rfl, (Below.refl _ w).alloc (Nat.le_refl _) _⟩
theorem rune_no_valid (c0 c1 : UInt8) (h0 : c0.toNat < 128) (h1 : c1.toNat < 128) (r : Int) (hv : Utf8.valid r = true) (h128 : 128 ≤ r) (hne : r ≠ 65533) (hmax : r ≤ 1114111) (w : World) :
    Calls Tryz.prog 221 #[.string ⟨#[c0, c1]⟩, .int .i32 r] w fun e w' => e = .returned (.int .i64 (-1)) ∧ Below w.heap.size w w' := by
  obtain ⟨s, hs⟩ : ∃ s : ByteArray, (⟨#[c0, c1]⟩ : ByteArray) = s := ⟨_, rfl⟩
  have hsz : s.size = 2 := by rw [← hs]; rfl
  have has : ∀ (i : Nat) (hi : i < s.size), (s[i]'hi).toNat < 128 := by
    subst hs
    intro i hi
    match i, hi with
    | 0, _ => exact h0
    | 1, _ => exact h1
    | i + 2, hi => exact absurd hi (by rw [hsz]; omega)
  rw [hs]
  clear hs h0 h1
  obtain ⟨hn2, hn4, hlast⟩ := encode_facts r hv h128
  have hvr : Lib.validRune r = true := by
    unfold Utf8.valid at hv; unfold Lib.validRune
    simp at hv ⊢; omega
  have hb0 : ¬ (r < 128) := by omega
  have hb1 : (r == 65533) = false := beq_eq_false_iff_ne.2 hne
  generalize henc : Utf8.encode r = E at *
  have cV := Any.utf8_ValidRune Tryz.lays119 r
  rw [hvr] at cV
  go_enter Tryz.func221, Tryz.ntmps221
  go_wp2_with (go_at_call 262; go_fit (cV _); rintro e w' ⟨rfl, rfl⟩)
  refine wp_scope_straight ?_
  go_wp2
  go_loopg [9] 0 (fun g s9 wx => g = 0 ∧ s9 = .int .i64 ((E.size : Int) - 1) ∧ wx = w')
  case atStart => exact ⟨rfl, rfl, rfl⟩
  case round =>
    obtain ⟨rfl, rfl, rfl⟩ := hrel
    by_cases h2 : E.size = 2
    · have hl1 : ((E.size : Int) - 1) < (s.size : Int) := by rw [hsz, h2]; decide
      have hE1 : (1 : Nat) < E.size := by omega
      have hs1 : (1 : Nat) < s.size := by omega
      obtain ⟨x, hx⟩ : ∃ x, s[1]'hs1 = x := ⟨_, rfl⟩
      obtain ⟨y, hy⟩ : ∃ y, E[1]'hE1 = y := ⟨_, rfl⟩
      have hxl : x.toNat < 128 := by rw [← hx]; exact has 1 hs1
      have hyl : 128 ≤ y.toNat := by
        rw [← hy]
        have := hlast (by omega)
        simp only [h2] at this
        exact this
      have e1 : ((E.size : Int) - 1) = 1 := by omega
      have hlt1 : (1 : Int) < (s.size : Int) := by omega
      have hlt2 : (1 : Int) < (E.size : Int) := by omega
      have hxy : ((x.toNat : Int) == y.toNat) = false := beq_eq_false_iff_ne.2 (by omega)
      go_wp2
      refine wp_scope_straight ?_
      simp only [e1]
      go_wp2
      go_region
      have hxy2 : ((x.toNat : Int) != y.toNat) = true := bne_iff_ne.2 (by omega)
      obtain ⟨wd, hwd⟩ : ∃ wd, wr.drew = wd := ⟨_, rfl⟩
      have hbd : Below wr.heap.size wr wd := by rw [← hwd]; exact (Below.refl _ wr).drew
      rw [hwd]
      clear hwd
      go_wp2
      go_quiet (first | (go_at_call 150; refine Calls.quiet_of_same (Any.strings_IndexByte Tryz.lays137 _ _ _)))
      have hib : Lib.indexByte ByteArray.empty.data.toList ((y.toNat : Int)).toNat.toUInt8 = -1 := rfl
      simp only [hib]
      have hbd2 := below_drewNv hbd nq
      generalize wd.drewN nq = w3 at *
      go_wp2
      simp only [Exit.noGoto]
      go_wp2
      simp only [Exit.noGoto]
      go_wp2
      go_ret
      exact ⟨rfl, hbd2⟩
    · have hl1 : ¬ (((E.size : Int) - 1) < (s.size : Int)) := by omega
      go_wp2
      go_ret
      exact ⟨rfl, Below.refl _ _⟩
theorem rune_no (c0 c1 : UInt8) (h0 : c0.toNat < 128) (h1 : c1.toNat < 128) (r : Int) (hv : Utf8.valid r = true) (h128 : 128 ≤ r) (hmax : r ≤ 1114111) (w : World) :
    Calls Tryz.prog 221 #[.string ⟨#[c0, c1]⟩, .int .i32 r] w fun e w' => e = .returned (.int .i64 (-1)) ∧ Below w.heap.size w w' := by
  by_cases h : r = 65533
  · subst h; exact rune_no_err c0 c1 h0 h1 w
  · exact rune_no_valid c0 c1 h0 h1 r hv h128 h hmax w
theorem indexAny_short (s : ByteArray) (c0 c1 : UInt8) (hc0 : c0.toNat < 128) (hc1 : c1.toNat < 128) (h8 : s.size ≤ 8) (w : World) :
    Calls Tryz.prog 149 #[.string s, .string ⟨#[c0, c1]⟩] w fun e w' => e = .returned (.int .i64 (Lib.indexAny s.data.toList [c0, c1])) ∧ Below w.heap.size w w' := by
  have cR := fun r hv h1 h2 w => rune_no c0 c1 hc0 hc1 r hv h1 h2 w
  obtain ⟨cs, hcs⟩ : ∃ cs : ByteArray, (⟨#[c0, c1]⟩ : ByteArray) = cs := ⟨_, rfl⟩
  have hcz : cs.size = 2 := by rw [← hcs]; rfl
  have hcl : cs.data.toList = [c0, c1] := by rw [← hcs]
  have hemp : cs.toList.isEmpty = false := by rw [Lib.toList_data, hcl]; rfl
  rw [hcs] at cR ⊢
  have h8z : decide ((8 : Int) < (s.size : Int)) = false := decide_eq_false (by omega)
  have hnc : ∀ x : UInt8, 128 ≤ x.toNat → ([c0, c1] : Bs).contains x = false := fun x hx => by
    have e0 : ¬ x = c0 := fun e => by subst e; omega
    have e1 : ¬ x = c1 := fun e => by subst e; omega
    simp [e0, e1]
  clear hcs
  go_enter Tryz.func149, Tryz.ntmps149
  go_wp2_with (go_at_call 222; refine (Any.strings_shouldUseASCIISet { Tryz.lays153 with } _ _).mono ?_; rintro e w' ⟨rfl, hw⟩; rw [hw, h8z])
  go_loopg [] s.size (fun g wx => ∃ pos : Nat, wx.heap[w.heap.size]? = some (.stringIter s pos) ∧ Below w.heap.size w wx ∧ Lib.NoAny s.data.toList [c0, c1] pos ∧ s.size ≤ pos + g ∧ pos ≤ s.size)
  case atStart => exact ⟨0, World.iter_heap w s 0, (Below.refl _ w).alloc (Nat.le_refl _) _, Lib.NoAny.zero _ _, by omega, by omega⟩
  case round =>
    obtain ⟨pos, hit, hbw, hno, hfu, hps⟩ := hrel
    have hsz : w.heap.size < wr.heap.size := (Array.getElem?_eq_some_iff.1 hit).1
    by_cases hp : pos < s.size
    · obtain ⟨g, rfl⟩ : ∃ g, gk = g + 1 := ⟨gk - 1, by omega⟩
      have hnx : ∀ ty, (Instr.next (.pointer (some ⟨w.heap.size, 0, none⟩)) true ty).run Tryz.prog wr = _ := fun ty => Lib.run_next_any_at wr w.heap.size s pos ty hit hp
      by_cases ha : (s[pos]'hp).toNat < 128
      · obtain ⟨x, hx⟩ : ∃ x : UInt8, s[pos]'hp = x := ⟨_, rfl⟩
        have hxl : s.data.toList[pos]? = some x := by rw [← hx]; exact Lib.data_getElem? s pos hp
        have hnx2 : ∀ ty, (Instr.next (.pointer (some ⟨w.heap.size, 0, none⟩)) true ty).run Tryz.prog wr = _ := fun ty => Lib.run_next_ascii_at wr w.heap.size s pos ty hit hp ha
        clear hnx
        rw [hx] at hnx2 ha
        have hit2 := Lib.iterAt_heap wr w.heap.size s pos (pos + 1) hit
        have hbw2 := Lib.below_iterAt hbw (k := w.heap.size) (Nat.le_refl _) s (pos + 1)
        obtain ⟨W, hWd⟩ : ∃ W, wr.iterAt w.heap.size s (pos + 1) = W := ⟨_, rfl⟩
        rw [hWd] at hnx2 hit2 hbw2
        have hcon := Lib.contains_iff_indexByte cs.data.toList x
        have hback : ((x.toNat : Int)).toNat.toUInt8 = x := by simp
        have cA := Any.strings_IndexRune_ascii Tryz.lays152 cs (x.toNat : Int) W (by omega) (by omega)
        rw [hback] at cA
        rw [hcl] at hcon cA
        generalize Lib.indexByte [c0, c1] x = K at *
        cases hin : ([c0, c1] : Bs).contains x
        · rw [hin] at hcon
          have hlt : ¬ ((0 : Int) ≤ K) := of_decide_eq_false hcon.symm
          clear hcon
          go_wp2_with (go_at_call 221; go_fit cA; rintro e W' ⟨rfl, rfl⟩)
          go_roundg g
          case measure => omega
          case rel => exact ⟨pos + 1, hit2, hbw2, hno.succ hxl hin, by omega, by omega⟩
        · rw [hin] at hcon
          have hge : (0 : Int) ≤ K := of_decide_eq_true hcon.symm
          clear hcon
          go_wp2_with (go_at_call 221; go_fit cA; rintro e W' ⟨rfl, rfl⟩)
          go_ret
          exact ⟨by rw [Lib.indexAny_hit hno hxl hin] <;> rfl, hbw2⟩
      · obtain ⟨k1, k2, k3, k4, k5⟩ := decode_high_bytes s pos hp (by omega)
        obtain ⟨R, hR⟩ : ∃ R, (Utf8.decode s pos).1 = R := ⟨_, rfl⟩
        obtain ⟨K, hK⟩ : ∃ K, (Utf8.decode s pos).2 = K := ⟨_, rfl⟩
        rw [hR, hK] at hnx
        rw [hR] at k1 k2 k3
        rw [hK] at k4 k5
        have hit2 := Lib.iterAt_heap wr w.heap.size s pos (pos + K) hit
        have hbw2 := Lib.below_iterAt hbw (k := w.heap.size) (Nat.le_refl _) s (pos + K)
        obtain ⟨W, hWd⟩ : ∃ W, wr.iterAt w.heap.size s (pos + K) = W := ⟨_, rfl⟩
        rw [hWd] at hnx hit2 hbw2
        have cS := cR (R : Int) k2 (by omega) (by omega) W
        have hWs : w.heap.size < W.heap.size := (Array.getElem?_eq_some_iff.1 hit2).1
        have hwd := Lib.width_pos s pos
        rw [hK] at hwd
        go_wp2_with (go_at_call 221; go_fit cS; rintro e W' ⟨rfl, hb⟩)
        go_roundg g
        case measure => omega
        case rel =>
          refine ⟨pos + K, (hb.block w.heap.size hWs).trans hit2, hbw2.trans (hb.mono (by omega)), ?_, by omega, by omega⟩
          intro j x hj hx
          by_cases hjp : j < pos
          · exact hno j x hjp hx
          · exact hnc x (k5 j x (by omega) hj hx)
    · have hnx : ∀ ty, (Instr.next (.pointer (some ⟨w.heap.size, 0, none⟩)) true ty).run Tryz.prog wr = _ := fun ty => Lib.run_next_end_at wr w.heap.size s pos ty hit hp
      go_wp2
      go_ret
      have e : pos = s.size := by omega
      rw [e, str_size] at hno
      exact ⟨by rw [Lib.indexAny_none hno] <;> rfl, hbw⟩
theorem c_IndexAny2 (s : Bs) (c0 c1 : UInt8) (hc0 : c0.toNat < 128) (hc1 : c1.toNat < 128) (hs : s.length < 4294967281) (K) : Ct Tryz.prog 149 [.str s, .str [c0, c1]] K (.int .i64 (Lib.indexAny s [c0, c1])) K := by
  refine ct_lib ⟨_, Tryz.func149, rfl, by kernel_rfl⟩ rfl ?_ K
  intro w Pr vals ht h0
  obtain ⟨b, _, rfl, rfl, hl, h1⟩ := h0.str_inv
  obtain ⟨c, _, rfl, ec, hl2, h2⟩ := h1.str_inv
  obtain ⟨rfl, _⟩ := h2.nil_inv
  obtain rfl : c = ⟨#[c0, c1]⟩ := by
    cases c with
    | mk d => congr 1; exact Array.toList_inj.1 ec
  have h116 : (Tryz.prog.info? (Tryz.lays153_ren.t 116)).map (fun i => (i.zero, i.size)) = some (some (.agg (Array.replicate 256 (.bool false))), 256) := by kernel_rfl
  have hz : (⟨#[c0, c1]⟩ : ByteArray).size = 2 := rfl
  by_cases h8 : b.size ≤ 8
  · refine (indexAny_short b c0 c1 hc0 hc1 h8 w).mono ?_
    rintro e w' ⟨rfl, hb⟩
    exact ⟨_, rfl, fun _ _ _ => .int, hb⟩
  · refine (Any.strings_IndexAny_long Tryz.lays153 (zero_of_info h116).1 (zero_of_info h116).2 b ⟨#[c0, c1]⟩ w (by rw [hz]; exact Nat.le_refl 2) (by omega) (by rw [str_size]; exact hs) (by rw [hz]; decide) ?_).mono ?_
    · intro j x hx
      have : x ∈ ([c0, c1] : Bs) := List.mem_of_getElem? hx
      simp at this
      rcases this with rfl | rfl <;> assumption
    · rintro e w' ⟨rfl, rfl⟩
      exact ⟨_, rfl, fun _ _ _ => .int, ((Below.refl _ w).alloc (Nat.le_refl _) _).alloc (by simp) _⟩
end Go.Proofs.YtkefgpmnimpcdaaGreatDoor.Abs
