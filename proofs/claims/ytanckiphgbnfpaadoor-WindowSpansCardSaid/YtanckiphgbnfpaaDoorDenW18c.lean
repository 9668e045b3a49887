/-
  The law of spans: a case. Conditions: as each statement says.
-/
import Derived.Test.YtanckiphgbnfpaaDoorDenP8
namespace Go.Den
open Go.Proofs
set_option linter.unusedSimpArgs false
set_option linter.unusedVariables false

set_option maxHeartbeats 16000000 in
set_option maxRecDepth 100000 in
theorem d8c (k : Nat) (hk : 100 < k) (hh : ∀ (b0 b1 : ABlk) (ro : Nat), pcall (den Tryd.prog cfg1 (k + 10)) 10 [] ⟨[b0, b1], 0, [], ro⟩ = some (B true)) (a : Mea) (b : AV) (Z : List (Int × Int)) (h : ShL b Z) (t : Int) (hZ : Z.length ≤ 25) (c1 : spE a Z = 0) (c3 : ¬ 0 < spF a Z) (c4 : rchB Z t a.f = false) :
    ∃ m', den Tryd.prog cfg1 (k + 11) (.call 8 [a.av, .agg [b], I t]) M0 = some (B true, m') := by
  rw [den_call Tryd.func8 rfl]
  have hlen := h.len
  have hZ' : ¬ 25 < (Z.length : Int) := by omega
  have h11 := fun m => p11 a h m (k + 5) (by omega) (by omega)
  have r1 := fun m => p20 h t a.f m (k + 6) (by omega) (by omega)
  have r2 := fun m => p20 h (spF a Z) a.f m (k + 6) (by omega) (by omega)
  have r3 := fun m => p20 h (w64 (spF a Z - 1)) a.f m (k + 6) (by omega) (by omega)
  have r4 := fun m => p20 h (spT a Z) a.u m (k + 6) (by omega) (by omega)
  have r5 := fun m => p20 h t a.u m (k + 6) (by omega) (by omega)
  simp only [Mea.av] at h11 ⊢
  obtain ⟨g1, g2, g3, g4, g5⟩ := spans_ok (t := t) c1
  by_cases c5 : 0 ≤ spT a Z
  · obtain ⟨k1, k2, k3⟩ := g4 c5
    cases c6 : rchB Z t a.u
    · skip
      simp (maxSteps := 2000000) -implicitDefEqProofs [-lenA, hlen, Tryd.f8, hh, hZ', h11, r1, r2, r3, r4, r5, c1, get_app_len, g1, c3, c4, c5, k1, k2, c6]
    · have k4 := k3 c6
      simp (maxSteps := 2000000) -implicitDefEqProofs [-lenA, hlen, Tryd.f8, hh, hZ', h11, r1, r2, r3, r4, r5, c1, get_app_len, g1, c3, c4, c5, k1, k2, c6, k4]
  · obtain ⟨k1, k2⟩ := g5 c5
    by_cases c6 : a.u = -1
    · rw [k1, c6] at h11
      have c5' : ¬ (0 : Int) ≤ -1 := by omega
      simp (maxSteps := 2000000) -implicitDefEqProofs [-lenA, hlen, Tryd.f8, hh, hZ', h11, r1, r2, r3, r4, r5, c1, get_app_len, g1, c3, c4, c6]
    · have k3 := k2.resolve_left c6
      rw [k1] at h11
      simp (maxSteps := 2000000) -implicitDefEqProofs [-lenA, hlen, Tryd.f8, hh, hZ', h11, r1, r2, r3, r4, r5, c1, get_app_len, g1, c3, c4, c6, k3]
end Go.Den
