/- The program's reader of Json: skip, take, text, number: contracts. No condition. -/
import Derived.Test.YthagllbnkbahnaaDoorTxK
import Derived.Test.YthagllbnkbahnaaDoorTxQ
set_option linter.unusedVariables false
set_option linter.unusedSimpArgs false
namespace Go.Proofs.YthagllbnkbahnaaDoor.Abs
open Go
set_option maxHeartbeats 2000000
set_option maxRecDepth 100000
/-- Frames, in one of which lies a reader: its text, its place, whether it failed. -/
def KR (A : List (List (List AC))) (X : List (List AC)) (s : Bs) (a : Int) (f : Bool) (Y : List (List AC)) (C : List (List (List AC))) : List (List (List AC)) := A ++ (X ++ [.str s, .int .i64 a, .bool f] :: Y) :: C
@[simp] theorem KR_cons {B A X s a f Y C} : KR (B :: A) X s a f Y C = B :: KR A X s a f Y C := rfl
@[simp] theorem KR_get {A X s a f Y C} : (KR A X s a f Y C)[A.length]? = some (X ++ [.str s, .int .i64 a, .bool f] :: Y) := by
  unfold KR; rw [List.getElem?_append_right (Nat.le_refl _)]; simp
@[simp] theorem KR_x {X : List (List AC)} {c : List AC} {Y : List (List AC)} : (X ++ c :: Y)[X.length]? = some c := by
  rw [List.getElem?_append_right (Nat.le_refl _)]; simp
@[simp] theorem KR_sx {X : List (List AC)} {c d : List AC} {Y : List (List AC)} : (X ++ c :: Y).set X.length d = X ++ d :: Y := by
  rw [List.set_append_right _ _ (Nat.le_refl _)]; simp
@[simp] theorem KR_set {A X s a f Y C s' a' f'} : (KR A X s a f Y C).set A.length (X ++ [.str s', .int .i64 a', .bool f'] :: Y) = KR A X s' a' f' Y C := by
  unfold KR; rw [List.set_append_right _ _ (Nat.le_refl _)]; simp
theorem bl_ix (b : UInt8) : (0 ≤ Lib.indexByte [32, 9, 10, 13] b) ↔ isBl b = true :=
  u8_all (p := fun b => (0 ≤ Lib.indexByte [32, 9, 10, 13] b) ↔ isBl b = true) (by decide) b
theorem c_skip (A : List (List (List AC))) (X : List (List AC)) (s : Bs) (a : Nat) (f : Bool) (Y : List (List AC)) (C : List (List (List AC))) (ha : a ≤ s.length) (hs : s.length ≤ 1000000000) :
    Ct Tryd.prog 12 [.ptr A.length X.length 0] (KR A X s a f Y C) (.tup []) (KR A X s (pass s a : Nat) f Y C) := by
  refine ct_fn { n0 := 2, ex := [], tk := [22] } Tryd.func12 rfl (by kernel_rfl) (by kernel_rfl) rfl ?_
  simp -implicitDefEqProofs [Tryd.f12]
  obtain ⟨I, hI⟩ : ∃ I : Nat → St → Prop, ∀ m st, I m st ↔ ∃ i, i ≤ s.length ∧ m = s.length - i ∧ pass s i = pass s a ∧
    st = { env := [(0, .ptr (A.length + 1) X.length 0)], loc := [], K := [] :: KR A X s i f Y C } := ⟨_, fun _ _ => Iff.rfl⟩
  refine wC_loopI I (s.length - a) ((hI _ _).2 ⟨a, ha, rfl, rfl, rfl⟩) (St.le_of (by simp) (by simp) rfl (by simp)) ?_
  intro m st hst
  obtain ⟨i, hi, rfl, hp, rfl⟩ := (hI _ _).1 hst
  simp -implicitDefEqProofs
  refine wRun_draw true rfl (by decide +kernel) ?_
  rcases Nat.lt_or_ge i s.length with hlt | hge
  · obtain ⟨b, hx⟩ : ∃ b, s[i]? = some b := ⟨_, List.getElem?_eq_getElem hlt⟩
    have hxe : s[i]'hlt = b := (List.getElem?_eq_some_iff.1 hx).2
    have hb := b.toNat_lt
    have w1 : IntKind.i64.wrap ((i : Int) + 1) = (i + 1 : Nat) := by rw [wrap64 (by omega) (by omega)]; rfl
    have ei := c_IndexByte [32, 9, 10, 13] b.toNat hb
    rw [UInt8.ofNat_toNat] at ei
    have hps := pass_step hx
    have hbl := bl_ix b
    simp -implicitDefEqProofs [hlt, hxe, hx, w1]
    refine callK_still (fun _ => ei _) ?_
    simp -implicitDefEqProofs [hlt, hxe, hx, w1]
    refine ⟨fun h => ?_, fun h => ?_⟩
    · rw [hbl.1 h, if_pos rfl, hp] at hps
      exact ⟨s.length - (i + 1), by omega, _, St.le_of (by simp) (by simp [St.trunc, look, mapV, mapC, killP]) rfl (by simp [St.trunc, mapC]), (hI _ _).2 ⟨i + 1, by omega, rfl, hps.symm, rfl⟩⟩
    · rw [if_neg (fun e => by have := hbl.2 e; omega)] at hps
      rw [← hp, hps]
  · have hn : ¬ i < s.length := by omega
    simp -implicitDefEqProofs [hn]
    refine callK_still (r := .int .i64 0) (fun h => absurd h (by simp)) ?_
    simp -implicitDefEqProofs
    rw [← hp, pass_end hge]

/-- Does the text t stand next? -/
def takeOk (s : Bs) (a : Nat) (f : Bool) (t : Bs) : Bool := !f && t.isPrefixOf (s.drop (pass s a))
theorem c_take (A : List (List (List AC))) (X : List (List AC)) (s : Bs) (a : Nat) (f : Bool) (Y : List (List AC)) (C : List (List (List AC))) (t : Bs) (ha : a ≤ s.length) (hs : s.length ≤ 1000000000) :
    Ct Tryd.prog 26 [.ptr A.length X.length 0, .str t] (KR A X s a f Y C) (.bool (takeOk s a f t)) (KR A X s ((pass s a + (if takeOk s a f t then t.length else 0) : Nat) : Int) f Y C) := by
  have hp := pass_le ha
  refine ct_fn { n0 := 5, ex := [], tk := [6, 22] } Tryd.func26 rfl (by kernel_rfl) (by kernel_rfl) rfl ?_
  simp -implicitDefEqProofs [Tryd.f26]
  refine callK_of (c_skip ([] :: A) X s a f Y C ha hs) ?_
  unfold takeOk
  generalize pass s a = p at *
  have hpre := fun K => c_HasPrefix (s.drop p) t K
  have h2 : t.isPrefixOf (s.drop p) = true → t.length ≤ s.length - p := fun hh => by
    have := (prefix_take hh).2; rw [List.length_drop] at this; exact this
  generalize t.isPrefixOf (s.drop p) = q at *
  cases f with
  | true =>
    simp -implicitDefEqProofs
    refine wRun_draw true rfl (by decide +kernel) ?_
    simp -implicitDefEqProofs
    refine callK_still (r := .bool false) (fun h => absurd h (by simp)) ?_
    simp -implicitDefEqProofs
  | false =>
    simp -implicitDefEqProofs
    refine wRun_draw true rfl (by decide +kernel) ?_
    simp -implicitDefEqProofs [hp]
    refine callK_still (fun _ => hpre _) ?_
    cases q with
    | false => simp -implicitDefEqProofs
    | true =>
      have h2 := h2 rfl
      have w1 : IntKind.i64.wrap ((p : Int) + t.length) = ((p + t.length : Nat) : Int) := by rw [wrap64 (by omega) (by omega)]; omega
      simp -implicitDefEqProofs [w1]
end Go.Proofs.YthagllbnkbahnaaDoor.Abs
