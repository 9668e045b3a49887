/-
  The law of trades that were signed later. Conditions: as each statement says.
-/
import Derived.Test.YtanckiphgbnfpaaDoorDenW14
namespace Go.Den
open Go.Proofs
set_option linter.unusedSimpArgs false
set_option linter.unusedVariables false

theorem apB_iff {a : Mea} {Z : List (Int × Int)} {sg nw : Int} : apB a Z sg nw = true ↔ spE a Z = 0 ∧ (0 ≤ sg ∧ sg ≤ 144001439) ∧ (0 ≤ nw ∧ nw ≤ 144001439) ∧ spF a Z ≤ nw ∧ ¬ (0 ≤ spT a Z ∧ spT a Z ≤ nw) ∧ (spF a Z ≤ sg ∨ (begE Z (w64 (a.f + a.w)) = 0 ∧ begV Z (w64 (a.f + a.w)) ≤ nw)) := by
  unfold apB
  simp only [Bool.and_eq_true, Bool.or_eq_true, Bool.not_eq_true', Bool.and_eq_false_iff, decide_eq_true_eq, decide_eq_false_iff_not, inR_iff, and_assoc, Classical.not_and_iff_not_or_not]
theorem spE_iff {a : Mea} {Z : List (Int × Int)} : spE a Z = 0 ↔ a.dated = true ∧ valid Z = true ∧ begE Z a.f = 0 := by
  unfold spE
  by_cases h : a.dated = true ∧ valid Z = true
  · rw [if_pos h]
    by_cases h2 : begE Z a.f = 0 <;> simp [h, h2]
  · rw [if_neg h]
    refine ⟨fun h => by omega, fun h2 => absurd ⟨h2.1, h2.2.1⟩ h⟩
theorem spT_eq {a : Mea} {Z : List (Int × Int)} (h : spE a Z = 0) : spT a Z = if a.u < 0 then -1 else if begE Z a.u = 0 then begV Z a.u else -1 := if_pos h
theorem spF_eq {a : Mea} {Z : List (Int × Int)} (h : spE a Z = 0) : spF a Z = begV Z a.f := if_pos h
def Mea.setU (a : Mea) (u : Int) : Mea := { a with u := u }
theorem dated_iff {a : Mea} : a.dated = true ↔ (inR a.f 0 100000 && inR a.w 0 400 && (decide (a.w ≤ 0) || decide (a.k = 1))) = true ∧ (a.u = -1 ∨ ((0 ≤ a.u ∧ a.u ≤ 100000) ∧ a.f < a.u)) := by
  unfold Mea.dated
  rw [Bool.and_eq_true]
  simp [inR_iff]

theorem later1 {a : Mea} {Z : List (Int × Int)} {sg nw lt : Int} (h : apB a Z sg nw = true) (h1 : sg ≤ lt) (h2 : lt ≤ 144001439) : apB a Z lt nw = true := by
  rw [apB_iff] at h ⊢
  obtain ⟨g1, g2, g3, g4, g5, g6⟩ := h
  exact ⟨g1, by omega, g3, g4, g5, g6.imp (fun h => by omega) id⟩
theorem later2 {a : Mea} {Z : List (Int × Int)} {sg nw : Int} (h : apB a Z sg nw = true) : apB (a.setU (-1)) Z sg nw = true := by
  rw [apB_iff] at h ⊢
  obtain ⟨g1, g2, g3, g4, g5, g6⟩ := h
  have e := spE_iff.1 g1
  have g1' : spE (a.setU (-1)) Z = 0 := spE_iff.2 ⟨dated_iff.2 ⟨(dated_iff.1 e.1).1, .inl rfl⟩, e.2⟩
  have hF : spF (a.setU (-1)) Z = spF a Z := by rw [spF_eq g1', spF_eq g1]; rfl
  have hT : spT (a.setU (-1)) Z = -1 := by rw [spT_eq g1']; rfl
  rw [hF, hT]
  exact ⟨g1', g2, g3, g4, by omega, g6⟩
theorem later3 {a : Mea} {Z : List (Int × Int)} {sg nw un : Int} (h0 : spE a Z = 0) (h : apB a Z sg nw = false) (hu : a.u = -1 ∨ un < a.u) (hn : un ≠ -1) : apB (a.setU un) Z sg nw = false := by
  cases hs : apB (a.setU un) Z sg nw with
  | false => rfl
  | true =>
    exfalso
    rw [apB_iff] at hs
    obtain ⟨g1, g2, g3, g4, g5, g6⟩ := hs
    have e := spE_iff.1 h0
    have hF : spF (a.setU un) Z = spF a Z := by rw [spF_eq g1, spF_eq h0]; rfl
    rw [hF] at g4 g6
    have hT := spT_eq g1
    have hTa := spT_eq h0
    have : apB a Z sg nw = true := by
      rw [apB_iff]
      refine ⟨h0, g2, g3, g4, ?_, g6⟩
      rw [hTa]
      by_cases c1 : a.u < 0
      · rw [if_pos c1]; omega
      rw [if_neg c1]
      by_cases c2 : begE Z a.u = 0
      · rw [if_pos c2]
        have hun : un < a.u := by omega
        have hd : un = -1 ∨ ((0 ≤ un ∧ un ≤ 100000) ∧ a.f < un) := (dated_iff.1 (spE_iff.1 g1).1).2
        have hda := (dated_iff.1 e.1).2
        have hm := begin_mono e.2.1 (d1 := un) (d2 := a.u) (by omega) (by omega) c2
        have hT' : spT (a.setU un) Z = begV Z un := by
          rw [hT]
          show (if un < 0 then -1 else if begE Z un = 0 then begV Z un else -1) = _
          rw [if_neg (by omega), if_pos hm.1]
        rw [hT'] at g5
        have := begV_nonneg Z un
        omega
      · rw [if_neg c2]; omega
    rw [this] at h; cases h

set_option maxHeartbeats 16000000 in
set_option maxRecDepth 100000 in
theorem d6 (k : Nat) (hk : 100 < k) (hh : ∀ (b0 b1 : ABlk) (ro : Nat), pcall (den Tryd.prog cfg1 (k + 10)) 10 [] ⟨[b0, b1], 0, [], ro⟩ = some (B true)) (a : Mea) (b : AV) (Z : List (Int × Int)) (h : ShL b Z) (sg lt nw un : Int) :
    ∃ m', den Tryd.prog cfg1 (k + 11) (.call 6 [a.av, .agg [b], I sg, I lt, I nw, I un]) M0 = some (B true, m') := by
  rw [den_call Tryd.func6 rfl]
  have hlen := h.len
  by_cases hZ : Z.length ≤ 25
  case neg =>
    have hZ' : 25 < (Z.length : Int) := by omega
    simp -implicitDefEqProofs [-lenA, hlen, Tryd.f6, Mea.av, hh, hZ']
  have hZ' : ¬ 25 < (Z.length : Int) := by omega
  by_cases c1 : lt < sg
  · simp -implicitDefEqProofs [-lenA, hlen, Tryd.f6, Mea.av, hh, hZ', c1]
  by_cases c2 : 144001439 < lt
  · simp -implicitDefEqProofs [-lenA, hlen, Tryd.f6, Mea.av, hh, hZ', c1, c2]
  have h11 := fun m => p11 a h m (k + 5) (by omega) (by omega)
  have h13 := fun m => p13 a h sg nw m (k + 4) (by omega) (by omega)
  have h13l := fun m => p13 a h lt nw m (k + 4) (by omega) (by omega)
  have h13s := fun m => p13 (a.setU un) h sg nw m (k + 4) (by omega) (by omega)
  have h13o := fun m => p13 (a.setU (-1)) h sg nw m (k + 4) (by omega) (by omega)
  cases hA : apB a Z sg nw
  · by_cases c3 : spE a Z = 0
    · by_cases c4 : un = -1
      · subst c4
        simp only [Mea.av] at h11 h13 ⊢
        by_cases q1 : a.u = -1
        · rw [q1] at h11 h13
          simp -implicitDefEqProofs [-lenA, hlen, Tryd.f6, hh, hZ', c1, c2, h11, h13, hA, c3, get_app_len, q1]
        · by_cases q2 : -1 < a.u <;> simp -implicitDefEqProofs [-lenA, hlen, Tryd.f6, hh, hZ', c1, c2, h11, h13, hA, c3, get_app_len, q1, q2]
      · by_cases q1 : a.u = -1
        · have hS := later3 c3 hA (.inl q1) c4
          simp only [Mea.av, Mea.setU] at h11 h13 h13s hS ⊢
          rw [q1] at h11 h13
          simp -implicitDefEqProofs [-lenA, hlen, Tryd.f6, hh, hZ', c1, c2, h11, h13, hA, c3, get_app_len, q1, c4, h13s, hS]
        · by_cases q2 : un < a.u
          · have hS := later3 c3 hA (.inr q2) c4
            simp only [Mea.av, Mea.setU] at h11 h13 h13s hS ⊢
            simp -implicitDefEqProofs [-lenA, hlen, Tryd.f6, hh, hZ', c1, c2, h11, h13, hA, c3, get_app_len, q1, q2, c4, h13s, hS]
          · simp only [Mea.av] at h11 h13 ⊢
            by_cases q3 : a.u = un
            · rw [q3] at h11 h13
              have q1' : ¬ un = -1 := c4
              simp -implicitDefEqProofs [-lenA, hlen, Tryd.f6, hh, hZ', c1, c2, h11, h13, hA, c3, get_app_len, q1, q2, q3, c4, Int.lt_irrefl]
            · simp -implicitDefEqProofs [-lenA, hlen, Tryd.f6, hh, hZ', c1, c2, h11, h13, hA, c3, get_app_len, q1, q2, q3, c4]
    · simp only [Mea.av] at h11 h13 ⊢
      simp -implicitDefEqProofs [-lenA, hlen, Tryd.f6, hh, hZ', c1, c2, h11, h13, hA, c3, get_app_len]
  · have hl := later1 hA (show sg ≤ lt by omega) (by omega)
    have ho := later2 hA
    simp only [Mea.av, Mea.setU] at h11 h13 h13l h13o ho ⊢
    simp -implicitDefEqProofs [-lenA, hlen, Tryd.f6, hh, hZ', c1, c2, h13, h13l, h13o, hA, hl, ho, get_app_len]
end Go.Den
