/- slices.Clip of an owned slice. No condition. -/
import Derived.WalkKit
import Derived.ProofKit
import Derived.Test.YthagllbnkbahnaaGreatFacts
set_option linter.unusedVariables false
set_option linter.unusedSimpArgs false
namespace Go.Proofs.YthagllbnkbahnaaGreat.Abs
open Go Go.RowKit
set_option maxHeartbeats 1000000
set_option maxRecDepth 100000
theorem clip_walk (p : Option Addr) (n cap : Nat) (w : World) (h1 : n ≤ cap) (h2 : cap ≤ maxLen) (h3 : p = none → n = 0 ∧ cap = 0) :
    Calls Tryz.prog 49 #[.slice p n cap] w fun e w' => e = .returned (.slice p n n) ∧ w' = w := by
  go_enter Tryz.func49, Tryz.ntmps49
  go_wp2
  go_ret
  exact ⟨rfl, rfl⟩
/-- What Clip hands back of a slice that is its caller's own. -/
theorem c_ClipPlace {e : TypeId} (n : Nat) (cells : List AC) (K) : Ct Tryz.prog 49 [.sl (.ex e) n cells] K (.sl (.ex e) n cells) K := by
  refine ⟨⟨_, Tryz.func49, rfl, by kernel_rfl⟩, ?_⟩
  intro w Pr bl vals La Lk hA hK hcnt hlt htab
  cases hA with
  | cons g1 g2 =>
  cases g2
  cases g1 with
  | slNil =>
    refine (clip_walk none 0 0 w (Nat.le_refl _) (by unfold maxLen; omega) (fun _ => ⟨rfl, rfl⟩)).mono ?_
    rintro e' w' ⟨rfl, rfl⟩
    exact ⟨_, Pr, [], Lk, bl, rfl, .inl rfl, .slNil, hK, hcnt, fun x hx => .inl hx, hlt, ⟨rfl, rfl, rfl, Nat.le_refl _, fun _ _ _ => rfl, fun _ ha => ⟨ha, rfl⟩, fun _ ha => .inl ha⟩⟩
  | slEx h1 h2 h3 h4 h5 h6 h7 h8 h9 =>
    rename_i vals g cap L cur
    refine (clip_walk (some ⟨g, 0, none⟩) n cap w h4 h5 (fun h => by cases h)).mono ?_
    rintro e' w' ⟨rfl, rfl⟩
    exact ⟨_, Pr, _, Lk, bl, rfl, .inl rfl, .slEx h1 h2 h3 (Nat.le_refl _) (by omega) h6 (Nat.le_trans (Nat.mul_le_mul_right _ h4) h7) h8 h9, hK, by simpa using hcnt, fun x hx => .inl (by simpa using hx), hlt, ⟨rfl, rfl, rfl, Nat.le_refl _, fun _ _ _ => rfl, fun _ ha => ⟨ha, rfl⟩, fun _ ha => .inl ha⟩⟩
end Go.Proofs.YthagllbnkbahnaaGreat.Abs
