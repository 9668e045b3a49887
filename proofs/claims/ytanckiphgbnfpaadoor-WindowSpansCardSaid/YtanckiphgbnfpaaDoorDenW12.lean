/-
  The law that the window matches the reference. Conditions: as each statement says.
-/
import Derived.Test.YtanckiphgbnfpaaDoorDenW11
namespace Go.Den
open Go.Proofs
set_option linter.unusedSimpArgs false

theorem ShL.len {a : AV} {Z : List (Int × Int)} (h : ShL a Z) : lenA Tryd.prog 27 a = some (.val (I Z.length)) := by
  rcases h with ⟨rfl, rfl⟩ | ⟨c, hc, rfl⟩ <;> simp

set_option maxHeartbeats 8000000 in
set_option maxRecDepth 100000 in
theorem d3 (k : Nat) (hk : 100 < k) (hh : ∀ (b0 b1 : ABlk) (ro : Nat), pcall (den Tryd.prog cfg1 (k + 10)) 10 [] ⟨[b0, b1], 0, [], ro⟩ = some (B true)) (a : Mea) (b : AV) (Z : List (Int × Int)) (h : ShL b Z) (sg nw : Int) :
    ∃ m', den Tryd.prog cfg1 (k + 11) (.call 3 [a.av, .agg [b], I sg, I nw]) M0 = some (B true, m') := by
  rw [den_call Tryd.func3 rfl]
  have hlen := h.len
  by_cases hZ : Z.length ≤ 25
  case neg =>
    have hZ' : 25 < (Z.length : Int) := by omega
    simp -implicitDefEqProofs [-lenA, hlen, Tryd.f3, Mea.av, hh, hZ']
  have hZ' : ¬ 25 < (Z.length : Int) := by omega
  have h11 := fun m => p11 a h m (k + 5) (by omega) (by omega)
  have h12 := fun m => p12 a h m (k + 5) (by omega) (by omega)
  have h13 := fun m => p13 a h sg nw m (k + 4) (by omega) (by omega)
  have h14 := fun m => p14 a h sg nw m (k + 4) (by omega) (by omega)
  simp only [Mea.av] at h11 h12 h13 h14 ⊢
  simp (maxSteps := 2000000) -implicitDefEqProofs [-lenA, hlen, Tryd.f3, hh, hZ', h11, h12, h13, h14]
end Go.Den
