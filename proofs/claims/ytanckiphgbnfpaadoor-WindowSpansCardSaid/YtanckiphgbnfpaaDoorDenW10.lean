/-
  The reference's Applies. Conditions: as each statement says.
-/
import Derived.Test.YtanckiphgbnfpaaDoorDenW9
namespace Go.Den
open Go.Proofs
set_option linter.unusedSimpArgs false
set_option linter.unusedVariables false

set_option maxHeartbeats 8000000 in
theorem p14 (a : Mea) {b : AV} {Z : List (Int × Int)} (h : ShL b Z) (sg nw : Int) (m : AMem) (k : Nat) (hZ : Z.length ≤ 1000000) (hk : Z.length < k) : pcall (den Tryd.prog cfg1 (k+6)) 14 [a.av, .agg [b], I sg, I nw] m = some (B (apB a Z sg nw)) := by
  have h12 := fun m => p12 a h m k hZ hk
  have hw := fun m => p26 h (w64 (a.f + a.w)) m (k + 1) hZ (by omega)
  have nn : 0 ≤ begV Z (w64 (a.f + a.w)) := begV_nonneg Z _
  simp only [Mea.av] at h12 ⊢
  refine pcall_v ?_
  rw [den_call Tryd.func14 rfl]
  unfold apB
  by_cases c1 : spE a Z = 0
  case neg => simp -implicitDefEqProofs [Tryd.f14, h12, c1, get_app_len]
  cases c2 : inR sg 0 144001439
  · simp -implicitDefEqProofs [Tryd.f14, h12, c1, c2, get_app_len]
  cases c3 : inR nw 0 144001439
  · simp -implicitDefEqProofs [Tryd.f14, h12, c1, c2, c3, get_app_len]
  by_cases c4 : nw < spF a Z
  · have c4' : ¬ spF a Z ≤ nw := by omega
    simp -implicitDefEqProofs [Tryd.f14, h12, c1, c2, c3, c4, c4', get_app_len]
  have c4' : spF a Z ≤ nw := by omega
  have key : ∀ (hx : (0 ≤ spT a Z ∧ ¬ spT a Z ≤ nw) ∨ ¬ 0 ≤ spT a Z), True := fun _ => trivial
  by_cases c5 : 0 ≤ spT a Z
  · by_cases c6 : spT a Z ≤ nw
    · simp -implicitDefEqProofs [Tryd.f14, h12, c1, c2, c3, c4, c4', c5, c6, get_app_len]
    · by_cases c8 : begE Z (w64 (a.f + a.w)) = 0
      · by_cases c7 : spF a Z ≤ sg
        · simp -implicitDefEqProofs [Tryd.f14, h12, hw, begR, c1, c2, c3, c4, c4', c5, c6, c7, c8, get_app_len]
        · by_cases c9 : begV Z (w64 (a.f + a.w)) ≤ nw <;> simp -implicitDefEqProofs [Tryd.f14, h12, hw, begR, nn, c1, c2, c3, c4, c4', c5, c6, c7, c8, c9, get_app_len]
      · by_cases c7 : spF a Z ≤ sg <;> simp -implicitDefEqProofs [Tryd.f14, h12, hw, begR, c1, c2, c3, c4, c4', c5, c6, c7, c8, get_app_len]
  · by_cases c8 : begE Z (w64 (a.f + a.w)) = 0
    · by_cases c7 : spF a Z ≤ sg
      · simp -implicitDefEqProofs [Tryd.f14, h12, hw, begR, c1, c2, c3, c4, c4', c5, c7, c8, get_app_len]
      · by_cases c9 : begV Z (w64 (a.f + a.w)) ≤ nw <;> simp -implicitDefEqProofs [Tryd.f14, h12, hw, begR, nn, c1, c2, c3, c4, c4', c5, c7, c8, c9, get_app_len]
    · by_cases c7 : spF a Z ≤ sg <;> simp -implicitDefEqProofs [Tryd.f14, h12, hw, begR, c1, c2, c3, c4, c4', c5, c7, c8, get_app_len]
end Go.Den
