/-
  Zones: the clock's Valid, called. Conditions: as each statement says.
-/
import Derived.Test.YtanckiphgbnfpaaDoorDenW2
namespace Go.Den
open Go.Proofs
set_option linter.unusedSimpArgs false
set_option linter.unusedVariables false

theorem p23 {a : AV} {Z : List (Int × Int)} (h : ShL a Z) (m : AMem) (k : Nat) (hZ : Z.length ≤ 1000000) (hk : Z.length < k) : pcall (den Tryd.prog cfg1 (k+2)) 23 [.agg [a]] m = some (B (valid Z)) := by
  refine pcall_v ?_
  rw [den_call Tryd.func23 rfl]
  rcases h with ⟨rfl, rfl⟩ | ⟨c, hcv, rfl⟩
  · simp -implicitDefEqProofs [Tryd.f23, valid]
  · simp -implicitDefEqProofs [-loopN_succ, Tryd.f23]
    generalize hx : loopN _ _ _ _ = x
    have hE : End x (vZ 0 (-1) Z) (m.blks ++ [.arr [.agg [.sl 2 (Z.map shv) c]] 1]) m.next [] m.blks.length 59 [(1, .ref m.blks.length 0 0), (2, B false)] := by
      rw [← hx]
      have hl := loop23 Z c (m.blks ++ [.arr [.agg [.sl 2 (Z.map shv) c]] 1]) m.next m.blks.length m.blks.length [] (by simp) k hZ Z (k + 1) 0 (-1) []
      simp -implicitDefEqProofs [-loopN_succ, loopOf, loopsOf, codeOf, Tryd.f23] at hl
      exact hl _ rfl rfl rfl rfl rfl rfl rfl (by omega)
    obtain ⟨s', J', rfl, hs, hk⟩ := hE
    have k1 : s'[1]? = some (.ref m.blks.length 0 0) := hk (1, _) (by simp)
    have k2 : s'[2]? = some (B false) := hk (2, _) (by simp)
    unfold valid
    cases hv : vZ 0 (-1) Z
    · simp -implicitDefEqProofs [k2]
    · by_cases z0 : 0 < Z.length
      · have z0' : (0 : Int) < Z.length := by omega
        by_cases z1 : Z.length ≤ 20
        · have z1' : (Z.length : Int) ≤ 20 := by omega
          simp -implicitDefEqProofs [k1, k2, hs, get_app_len, z0, z0', z1, z1']
        · have z1' : ¬ (Z.length : Int) ≤ 20 := by omega
          simp -implicitDefEqProofs [k1, k2, hs, get_app_len, z0, z0', z1, z1']
      · have z0' : ¬ (0 : Int) < Z.length := by omega
        simp -implicitDefEqProofs [k1, k2, hs, get_app_len, z0, z0']
end Go.Den
