/-
  The law of spans: its cases joined. Conditions: as each statement says.
-/
import Derived.Test.YtanckiphgbnfpaaDoorDenW18a
import Derived.Test.YtanckiphgbnfpaaDoorDenW18b
import Derived.Test.YtanckiphgbnfpaaDoorDenW18c
import Derived.Test.YtanckiphgbnfpaaDoorDenW18d
namespace Go.Den
open Go.Proofs
set_option linter.unusedSimpArgs false
set_option linter.unusedVariables false

set_option maxHeartbeats 16000000 in
set_option maxRecDepth 100000 in
theorem d8 (k : Nat) (hk : 100 < k) (hh : ∀ (b0 b1 : ABlk) (ro : Nat), pcall (den Tryd.prog cfg1 (k + 10)) 10 [] ⟨[b0, b1], 0, [], ro⟩ = some (B true)) (a : Mea) (b : AV) (Z : List (Int × Int)) (h : ShL b Z) (t : Int) :
    ∃ m', den Tryd.prog cfg1 (k + 11) (.call 8 [a.av, .agg [b], I t]) M0 = some (B true, m') := by
  by_cases hZ : Z.length ≤ 25
  case neg =>
    rw [den_call Tryd.func8 rfl]
    have hlen := h.len
    have hZ' : 25 < (Z.length : Int) := by omega
    simp -implicitDefEqProofs [-lenA, hlen, Tryd.f8, Mea.av, hh, hZ']
  by_cases c1 : spE a Z = 0
  case neg =>
    rw [den_call Tryd.func8 rfl]
    have hlen := h.len
    have hZ' : ¬ 25 < (Z.length : Int) := by omega
    have h11 := fun m => p11 a h m (k + 5) (by omega) (by omega)
    have r1 := fun m => p20 h t a.f m (k + 6) (by omega) (by omega)
    simp only [Mea.av] at h11 ⊢
    have e1 : spF a Z = 0 := if_neg c1
    have e2 : spT a Z = 0 := if_neg c1
    rw [e1, e2] at h11
    by_cases c2 : spE a Z = 10
    · have hn := spans_no (t := t) c2
      rw [c2] at h11
      simp (maxSteps := 2000000) -implicitDefEqProofs [-lenA, hlen, Tryd.f8, hh, hZ', h11, r1, hn, get_app_len]
    · simp (maxSteps := 2000000) -implicitDefEqProofs [-lenA, hlen, Tryd.f8, hh, hZ', h11, r1, c1, c2, get_app_len]
  by_cases c3 : 0 < spF a Z
  · cases c4 : rchB Z t a.f
    · exact d8a k hk hh a b Z h t hZ c1 c3 c4
    · exact d8b k hk hh a b Z h t hZ c1 c3 c4
  · cases c4 : rchB Z t a.f
    · exact d8c k hk hh a b Z h t hZ c1 c3 c4
    · exact d8d k hk hh a b Z h t hZ c1 c3 c4
end Go.Den
