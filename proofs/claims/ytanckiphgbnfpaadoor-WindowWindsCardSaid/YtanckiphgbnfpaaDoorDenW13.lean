/-
  The law of winding down. Conditions: as each statement says.
-/
import Derived.Test.YtanckiphgbnfpaaDoorDenW12
namespace Go.Den
open Go.Proofs
set_option linter.unusedSimpArgs false
set_option linter.unusedVariables false

theorem dated_w {a : Mea} (h : a.dated = true) : (0 ≤ a.f ∧ a.f ≤ 100000) ∧ (0 ≤ a.w ∧ a.w ≤ 400) := by
  unfold Mea.dated at h
  simp only [Bool.and_eq_true] at h
  exact ⟨inR_iff.1 h.1.1.1, inR_iff.1 h.1.1.2⟩
theorem spE_zero {a : Mea} {Z : List (Int × Int)} (h : spE a Z = 0) : a.dated = true ∧ valid Z = true ∧ begE Z a.f = 0 ∧ spF a Z = begV Z a.f := by
  have hF : spF a Z = begV Z a.f := by unfold spF; rw [if_pos h]
  unfold spE at h
  split at h
  · rename_i c
    split at h
    · rename_i c3; exact ⟨c.1, c.2, c3, hF⟩
    · omega
  · omega

set_option maxHeartbeats 16000000 in
set_option maxRecDepth 100000 in
theorem d5 (k : Nat) (hk : 100 < k) (hh : ∀ (b0 b1 : ABlk) (ro : Nat), pcall (den Tryd.prog cfg1 (k + 10)) 10 [] ⟨[b0, b1], 0, [], ro⟩ = some (B true)) (a : Mea) (b : AV) (Z : List (Int × Int)) (h : ShL b Z) (sg nw : Int) :
    ∃ m', den Tryd.prog cfg1 (k + 11) (.call 5 [a.av, .agg [b], I sg, I nw]) M0 = some (B true, m') := by
  rw [den_call Tryd.func5 rfl]
  have hlen := h.len
  by_cases hZ : Z.length ≤ 25
  case neg =>
    have hZ' : 25 < (Z.length : Int) := by omega
    simp -implicitDefEqProofs [-lenA, hlen, Tryd.f5, Mea.av, hh, hZ']
  have hZ' : ¬ 25 < (Z.length : Int) := by omega
  have h11 := fun m => p11 a h m (k + 5) (by omega) (by omega)
  have h13 := fun m => p13 a h sg nw m (k + 4) (by omega) (by omega)
  have hw := fun m => p19 h (w64 (a.f + a.w)) m (k + 6) (by omega) (by omega)
  simp only [Mea.av] at h11 h13 ⊢
  have hA : apB a Z sg nw = apB a Z sg nw := rfl
  by_cases c1 : spE a Z = 0
  case neg =>
    have hA : apB a Z sg nw = false := by simp [apB, c1]
    simp (maxSteps := 2000000) -implicitDefEqProofs [-lenA, hlen, Tryd.f5, hh, hZ', h11, h13, hw, get_app_len, hA, c1]
  obtain ⟨hdt, hvl, hbf, hF⟩ := spE_zero c1
  have hF0 : 0 ≤ spF a Z := by rw [hF]; exact begV_nonneg Z _
  have hwd := dated_w hdt
  by_cases c2 : sg < 0
  · have hA : apB a Z sg nw = false := by
      have : inR sg 0 144001439 = false := by simp [inR]; omega
      simp [apB, this]
    simp (maxSteps := 2000000) -implicitDefEqProofs [-lenA, hlen, Tryd.f5, hh, hZ', h11, h13, hw, get_app_len, hA, c1, c2]
  by_cases c3 : 144001439 < sg
  · have hA : apB a Z sg nw = false := by
      have : inR sg 0 144001439 = false := by simp [inR]; omega
      simp [apB, this]
    simp (maxSteps := 2000000) -implicitDefEqProofs [-lenA, hlen, Tryd.f5, hh, hZ', h11, h13, hw, get_app_len, hA, c1, c2, c3]
  have i1 : inR sg 0 144001439 = true := by simp [inR]; omega
  by_cases c4 : nw < spF a Z
  · have c4' : ¬ spF a Z ≤ nw := by omega
    have hA : apB a Z sg nw = false := by simp [apB, c4']
    simp (maxSteps := 2000000) -implicitDefEqProofs [-lenA, hlen, Tryd.f5, hh, hZ', h11, h13, hw, get_app_len, hA, c1, c2, c3, c4]
  have c4' : spF a Z ≤ nw := by omega
  by_cases c5 : 144001439 < nw
  · have hA : apB a Z sg nw = false := by
      have : inR nw 0 144001439 = false := by simp [inR]; omega
      simp [apB, this]
    simp (maxSteps := 2000000) -implicitDefEqProofs [-lenA, hlen, Tryd.f5, hh, hZ', h11, h13, hw, get_app_len, hA, c1, c2, c3, c4, c5]
  have i2 : inR nw 0 144001439 = true := by simp [inR]; omega
  have wlow : ¬ 0 < a.w → begE Z (w64 (a.f + a.w)) = 0 ∧ begV Z (w64 (a.f + a.w)) ≤ nw := by
    intro hw0
    have : a.w = 0 := by omega
    have e : w64 (a.f + a.w) = a.f := by rw [this, Int.add_zero]; exact w64_fit (by omega) (by omega)
    rw [e]
    exact ⟨hbf, by rw [← hF]; exact c4'⟩
  by_cases c6 : 0 ≤ spT a Z
  · by_cases c7 : spT a Z ≤ nw
    · have hA : apB a Z sg nw = false := by simp [apB, c6, c7]
      simp (maxSteps := 2000000) -implicitDefEqProofs [-lenA, hlen, Tryd.f5, hh, hZ', h11, h13, hw, get_app_len, hA, c1, c2, c3, c4, c5, c6, c7]
    · skip
      by_cases c8 : spF a Z ≤ sg
      · have hA : apB a Z sg nw = true := by simp [apB, c1, i1, i2, c4', c8, c6, c7]
        simp (maxSteps := 2000000) -implicitDefEqProofs [-lenA, hlen, Tryd.f5, hh, hZ', h11, h13, hw, get_app_len, hA, c1, c2, c3, c4, c5, c8, c6, c7]
      by_cases c9 : begE Z (w64 (a.f + a.w)) = 0
      case neg =>
        have hA : apB a Z sg nw = false := by simp [apB, c8, c9]
        have hwp : 0 < a.w := by
          by_cases q : 0 < a.w
          · exact q
          · exact absurd (wlow q).1 c9
        simp (maxSteps := 2000000) -implicitDefEqProofs [-lenA, hlen, Tryd.f5, hh, hZ', h11, h13, hw, get_app_len, hA, c1, c2, c3, c4, c5, c8, c9, hwp, c6, c7]
      by_cases c10 : begV Z (w64 (a.f + a.w)) ≤ nw
      case neg =>
        have hA : apB a Z sg nw = false := by simp [apB, c8, c10]
        have hwp : 0 < a.w := by
          by_cases q : 0 < a.w
          · exact q
          · exact absurd (wlow q).2 c10
        simp (maxSteps := 2000000) -implicitDefEqProofs [-lenA, hlen, Tryd.f5, hh, hZ', h11, h13, hw, get_app_len, hA, c1, c2, c3, c4, c5, c8, c9, c10, hwp, c6, c7]
      have hA : apB a Z sg nw = true := by simp [apB, c1, i1, i2, c4', c9, c10, c6, c7]
      by_cases hwp : 0 < a.w
      · skip
        simp (maxSteps := 2000000) -implicitDefEqProofs [-lenA, hlen, Tryd.f5, hh, hZ', h11, h13, hw, get_app_len, hA, c1, c2, c3, c4, c5, c8, c9, c10, hwp, c6, c7]
      · skip
        simp (maxSteps := 2000000) -implicitDefEqProofs [-lenA, hlen, Tryd.f5, hh, hZ', h11, h13, hw, get_app_len, hA, c1, c2, c3, c4, c5, c8, c9, c10, hwp, c6, c7]
  · skip
    by_cases c8 : spF a Z ≤ sg
    · have hA : apB a Z sg nw = true := by simp [apB, c1, i1, i2, c4', c8, c6]
      simp (maxSteps := 2000000) -implicitDefEqProofs [-lenA, hlen, Tryd.f5, hh, hZ', h11, h13, hw, get_app_len, hA, c1, c2, c3, c4, c5, c8, c6]
    by_cases c9 : begE Z (w64 (a.f + a.w)) = 0
    case neg =>
      have hA : apB a Z sg nw = false := by simp [apB, c8, c9]
      have hwp : 0 < a.w := by
        by_cases q : 0 < a.w
        · exact q
        · exact absurd (wlow q).1 c9
      simp (maxSteps := 2000000) -implicitDefEqProofs [-lenA, hlen, Tryd.f5, hh, hZ', h11, h13, hw, get_app_len, hA, c1, c2, c3, c4, c5, c8, c9, hwp, c6]
    by_cases c10 : begV Z (w64 (a.f + a.w)) ≤ nw
    case neg =>
      have hA : apB a Z sg nw = false := by simp [apB, c8, c10]
      have hwp : 0 < a.w := by
        by_cases q : 0 < a.w
        · exact q
        · exact absurd (wlow q).2 c10
      simp (maxSteps := 2000000) -implicitDefEqProofs [-lenA, hlen, Tryd.f5, hh, hZ', h11, h13, hw, get_app_len, hA, c1, c2, c3, c4, c5, c8, c9, c10, hwp, c6]
    have hA : apB a Z sg nw = true := by simp [apB, c1, i1, i2, c4', c9, c10, c6]
    by_cases hwp : 0 < a.w
    · skip
      simp (maxSteps := 2000000) -implicitDefEqProofs [-lenA, hlen, Tryd.f5, hh, hZ', h11, h13, hw, get_app_len, hA, c1, c2, c3, c4, c5, c8, c9, c10, hwp, c6]
    · skip
      simp (maxSteps := 2000000) -implicitDefEqProofs [-lenA, hlen, Tryd.f5, hh, hZ', h11, h13, hw, get_app_len, hA, c1, c2, c3, c4, c5, c8, c9, c10, hwp, c6]
end Go.Den
