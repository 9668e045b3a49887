/-
  The law of a zone with one offset. Conditions: as each statement says.
-/
import Derived.Test.YtanckiphgbnfpaaDoorDenW15
import Derived.Test.YtanckiphgbnfpaaDoorDenW16
namespace Go.Den
open Go.Proofs
set_option linter.unusedSimpArgs false
set_option linter.unusedVariables false

theorem dated_fw {a : Mea} (h : a.dated = true) : (0 ≤ a.f ∧ a.f ≤ 100000) ∧ (0 ≤ a.w ∧ a.w ≤ 400) := by
  unfold Mea.dated at h
  simp only [Bool.and_eq_true] at h
  exact ⟨inR_iff.1 h.1.1.1, inR_iff.1 h.1.1.2⟩
def Mea.setW (a : Mea) (w : Int) : Mea := { a with w := w }

theorem off_one {o t : Int} (h : t ≤ 144001439) : offAt [(0, o)] t = o := by
  rw [offAt]
  have : endOfS [] = 144001439 := rfl
  rw [this, if_pos h]

theorem plainEq {a : Mea} {o sg nw : Int} (hw : a.w = 0) (h0 : spE a [(0, o)] = 0) (hl : locE [(0, o)] nw = 0) (h1 : 0 ≤ sg) (h2 : sg ≤ 144001439) :
    apB a [(0, o)] sg nw = (decide (a.f ≤ locV [(0, o)] nw) && (decide (a.u = -1) || decide (locV [(0, o)] nw < a.u))) := by
  have e := spE_iff.1 h0
  have hd := dated_iff.1 e.1
  have hfw := dated_fw e.1
  have hn : valid [(0, o)] = true ∧ inR nw 0 144001439 = true := by
    unfold locE at hl
    split at hl
    · assumption
    · omega
  have hn2 := inR_iff.1 hn.2
  have hV : locV [(0, o)] nw = (nw + o) / 1440 := by
    unfold locV
    rw [if_pos hl, off_one hn2.2]
  -- whether an instant has begun a day
  have key : ∀ day, 0 ≤ day → day ≤ 100000 → (begE [(0, o)] day = 0 → (begV [(0, o)] day ≤ nw ↔ day ≤ locV [(0, o)] nw)) ∧ (begE [(0, o)] day ≠ 0 → locV [(0, o)] nw < day) := by
    intro day d1 d2
    obtain ⟨s1, s2⟩ := begin_spec (Z := [(0, o)]) e.2.1 (show day ≤ 100001 by omega)
    rw [locD_eq (by omega)] at s1 s2
    rw [hV]
    refine ⟨fun hb => ?_, fun hb => ?_⟩
    · obtain ⟨⟨k1, k2⟩, k3, k4⟩ := s1 hb
      rw [off_one k2] at k3
      constructor
      · intro h; omega
      · intro h
        refine k4 nw hn2.1 hn2.2 ?_
        rw [off_one hn2.2]; omega
    · have := s2 hb nw hn2.1 hn2.2
      rw [off_one hn2.2] at this
      omega
  have kf := (key a.f (by omega) (by omega)).1 e.2.2
  have hF : spF a [(0, o)] = begV [(0, o)] a.f := spF_eq h0
  have hT := spT_eq h0
  have hwd : begE [(0, o)] (w64 (a.f + a.w)) = 0 ∧ begV [(0, o)] (w64 (a.f + a.w)) = begV [(0, o)] a.f := by
    have : w64 (a.f + a.w) = a.f := by rw [hw, Int.add_zero]; exact w64_fit (by omega) (by omega)
    rw [this]; exact ⟨e.2.2, rfl⟩
  have hiff : apB a [(0, o)] sg nw = true ↔ (a.f ≤ locV [(0, o)] nw ∧ (a.u = -1 ∨ locV [(0, o)] nw < a.u)) := by
    rw [apB_iff, hF, hT, hwd.1, hwd.2]
    by_cases c1 : a.u < 0
    · rw [if_pos c1]
      have hu : a.u = -1 := by omega
      constructor
      · rintro ⟨_, _, _, g4, _, _⟩; exact ⟨kf.1 g4, .inl hu⟩
      · rintro ⟨g, _⟩; exact ⟨h0, ⟨h1, h2⟩, hn2, kf.2 g, by omega, .inr ⟨rfl, kf.2 g⟩⟩
    · rw [if_neg c1]
      have hu : a.u ≤ 100000 := by omega
      obtain ⟨u1, u2⟩ := key a.u (by omega) hu
      by_cases c2 : begE [(0, o)] a.u = 0
      · rw [if_pos c2]
        have ku := u1 c2
        have nn := begV_nonneg [(0, o)] a.u
        constructor
        · rintro ⟨_, _, _, g4, g5, _⟩
          refine ⟨kf.1 g4, .inr ?_⟩
          have : ¬ begV [(0, o)] a.u ≤ nw := fun h => g5 ⟨nn, h⟩
          have := fun h => this (ku.2 h)
          omega
        · rintro ⟨g, g'⟩
          refine ⟨h0, ⟨h1, h2⟩, hn2, kf.2 g, ?_, .inr ⟨rfl, kf.2 g⟩⟩
          rintro ⟨_, h⟩
          have := ku.1 h
          omega
      · rw [if_neg c2]
        have := u2 c2
        constructor
        · rintro ⟨_, _, _, g4, _, _⟩; exact ⟨kf.1 g4, .inr this⟩
        · rintro ⟨g, _⟩; exact ⟨h0, ⟨h1, h2⟩, hn2, kf.2 g, by omega, .inr ⟨rfl, kf.2 g⟩⟩
  rw [Bool.eq_iff_iff, hiff]
  simp

set_option maxHeartbeats 16000000 in
set_option maxRecDepth 100000 in
theorem d9 (k : Nat) (hk : 100 < k) (hh : ∀ (b0 : ABlk) (ro : Nat), pcall (den Tryd.prog cfg1 (k + 10)) 10 [] ⟨[b0], 0, [], ro⟩ = some (B true)) (a : Mea) (o sg nw : Int) :
    ∃ m', den Tryd.prog cfg1 (k + 11) (.call 9 [a.av, I o, I sg, I nw]) M0 = some (B true, m') := by
  rw [den_call Tryd.func9 rfl]
  have h : ShL (.sl 2 [.agg [I 0, I o]] .tight) [(0, o)] := .inr ⟨.tight, fun _ => rfl, rfl⟩
  have h11 := fun m => p11 (a.setW 0) h m (k + 5) (by simp) (by simp <;> omega)
  have h13 := fun m => p13 (a.setW 0) h sg nw m (k + 4) (by simp) (by simp <;> omega)
  have h21 := fun m => p21 h nw m (k + 7) (by simp) (by simp <;> omega)
  have hE : (a.setW 0).w = 0 := rfl
  by_cases c1 : spE (a.setW 0) [(0, o)] = 0
  case neg =>
    have hA : apB (a.setW 0) [(0, o)] sg nw = false := by simp [apB, c1]
    simp only [Mea.av, Mea.setW] at h11 h13 hA c1 ⊢
    simp (maxSteps := 2000000) -implicitDefEqProofs [Tryd.f9, hh, h11, h13, h21, hA, c1, get_app_len]
  have hv := (spE_iff.1 c1).2.1
  by_cases c2 : locE [(0, o)] nw = 0
  case neg =>
    have hA : apB (a.setW 0) [(0, o)] sg nw = false := by
      have : inR nw 0 144001439 = false := by
        cases hi : inR nw 0 144001439 with
        | false => rfl
        | true => exact absurd (if_pos ⟨hv, hi⟩) c2
      simp [apB, this]
    simp only [Mea.av, Mea.setW] at h11 h13 hA c1 ⊢
    simp (maxSteps := 2000000) -implicitDefEqProofs [Tryd.f9, hh, h11, h13, h21, hA, c1, c2, get_app_len]
  by_cases c3 : sg < 0
  · have hA : apB (a.setW 0) [(0, o)] sg nw = false := by
      have : inR sg 0 144001439 = false := by simp [inR]; omega
      simp [apB, this]
    simp only [Mea.av, Mea.setW] at h11 h13 hA c1 ⊢
    simp (maxSteps := 2000000) -implicitDefEqProofs [Tryd.f9, hh, h11, h13, h21, hA, c1, c2, c3, get_app_len]
  by_cases c4 : 144001439 < sg
  · have hA : apB (a.setW 0) [(0, o)] sg nw = false := by
      have : inR sg 0 144001439 = false := by simp [inR]; omega
      simp [apB, this]
    simp only [Mea.av, Mea.setW] at h11 h13 hA c1 ⊢
    simp (maxSteps := 2000000) -implicitDefEqProofs [Tryd.f9, hh, h11, h13, h21, hA, c1, c2, c3, c4, get_app_len]
  have hP : apB (a.setW 0) [(0, o)] sg nw = (decide (a.f ≤ locV [(0, o)] nw) && (decide (a.u = -1) || decide (locV [(0, o)] nw < a.u))) := plainEq (a := a.setW 0) hE c1 c2 (show 0 ≤ sg by omega) (by omega)
  by_cases c5 : a.f ≤ locV [(0, o)] nw
  · by_cases c6 : a.u = -1
    · have hA : apB (a.setW 0) [(0, o)] sg nw = true := by rw [hP]; simp [c5, c6]
      simp only [Mea.av, Mea.setW] at h11 h13 hA c1 ⊢
      rw [c6] at h11 h13 c1 hA
      simp (maxSteps := 2000000) -implicitDefEqProofs [Tryd.f9, hh, h11, h13, h21, hA, c1, c2, c3, c4, c5, c6, quietAcc, get_app_len]
    · by_cases c7 : locV [(0, o)] nw < a.u
      · have hA : apB (a.setW 0) [(0, o)] sg nw = true := by rw [hP]; simp [c5, c7]
        simp only [Mea.av, Mea.setW] at h11 h13 hA c1 ⊢
        simp (maxSteps := 2000000) -implicitDefEqProofs [Tryd.f9, hh, h11, h13, h21, hA, c1, c2, c3, c4, c5, c6, c7, quietAcc, get_app_len]
      · have hA : apB (a.setW 0) [(0, o)] sg nw = false := by rw [hP]; simp [c6, c7]
        simp only [Mea.av, Mea.setW] at h11 h13 hA c1 ⊢
        simp (maxSteps := 2000000) -implicitDefEqProofs [Tryd.f9, hh, h11, h13, h21, hA, c1, c2, c3, c4, c5, c6, c7, quietAcc, get_app_len]
  · have hA : apB (a.setW 0) [(0, o)] sg nw = false := by rw [hP]; simp [c5]
    simp only [Mea.av, Mea.setW] at h11 h13 hA c1 ⊢
    simp (maxSteps := 2000000) -implicitDefEqProofs [Tryd.f9, hh, h11, h13, h21, hA, c1, c2, c3, c4, c5, quietAcc, get_app_len]
end Go.Den
