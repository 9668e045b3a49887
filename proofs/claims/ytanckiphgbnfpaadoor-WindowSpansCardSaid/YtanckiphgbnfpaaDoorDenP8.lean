/-
  Spans and local times, in plain numbers. Conditions: as each statement says.
-/
import Derived.Test.YtanckiphgbnfpaaDoorDenW15
import Derived.Test.YtanckiphgbnfpaaDoorDenW16
namespace Go.Den
open Go.Proofs
set_option linter.unusedSimpArgs false
set_option linter.unusedVariables false

/-- Where a day begins: the local time has reached it there, and at no earlier instant. -/
theorem rch_begin {Z : List (Int × Int)} (hv : valid Z = true) {day : Int} (h1 : -1 ≤ day) (h2 : day ≤ 100001) :
    (begE Z day = 0 → rchB Z (begV Z day) day = true ∧ ∀ t, rchB Z t day = true → begV Z day ≤ t) ∧ (begE Z day ≠ 0 → ∀ t, rchB Z t day = false) := by
  obtain ⟨s1, s2⟩ := begin_spec hv h2
  rw [locD_eq (by omega)] at s1 s2
  refine ⟨fun hb => ?_, fun hb t => ?_⟩
  · obtain ⟨k1, k2, k3⟩ := s1 hb
    refine ⟨rch_iff.2 ⟨hv, k1, k2⟩, fun t ht => ?_⟩
    obtain ⟨_, q1, q2⟩ := rch_iff.1 ht
    exact k3 t q1.1 q1.2 q2
  · cases hr : rchB Z t day with
    | false => rfl
    | true =>
      obtain ⟨_, q1, q2⟩ := rch_iff.1 hr
      have := s2 hb t q1.1 q1.2
      omega

/-- What the law of spans asks where there is a span. -/
theorem spans_ok {a : Mea} {Z : List (Int × Int)} {t : Int} (h : spE a Z = 0) :
    rchB Z (spF a Z) a.f = true ∧ (0 < spF a Z → rchB Z (w64 (spF a Z - 1)) a.f = false) ∧ (rchB Z t a.f = true → spF a Z ≤ t) ∧
    (0 ≤ spT a Z → a.f < a.u ∧ rchB Z (spT a Z) a.u = true ∧ (rchB Z t a.u = true → spT a Z ≤ t)) ∧
    (¬ 0 ≤ spT a Z → spT a Z = -1 ∧ (a.u = -1 ∨ rchB Z t a.u = false)) := by
  have e := spE_iff.1 h
  have hd := (dated_iff.1 e.1).2
  have hf : 0 ≤ a.f ∧ a.f ≤ 100000 := by
    have := (dated_iff.1 e.1).1
    simp only [Bool.and_eq_true] at this
    exact inR_iff.1 this.1.1
  have hF := spF_eq h
  have hT := spT_eq h
  obtain ⟨r1, _⟩ := rch_begin e.2.1 (day := a.f) (by omega) (by omega)
  obtain ⟨r2, r3⟩ := r1 e.2.2
  rw [hF]
  refine ⟨r2, fun hp => ?_, r3 t, fun hp => ?_, fun hp => ?_⟩
  · have hb := ((begin_spec e.2.1 (show a.f ≤ 100001 by omega)).1 e.2.2).1
    rw [w64_fit (by omega) (by omega)]
    cases hr : rchB Z (begV Z a.f - 1) a.f with
    | false => rfl
    | true => have := r3 _ hr; omega
  · rw [hT] at hp ⊢
    by_cases c1 : a.u < 0
    · rw [if_pos c1] at hp; omega
    rw [if_neg c1] at hp ⊢
    by_cases c2 : begE Z a.u = 0
    · rw [if_pos c2] at hp ⊢
      obtain ⟨u1, u2⟩ := (rch_begin e.2.1 (day := a.u) (by omega) (by omega)).1 c2
      exact ⟨by omega, u1, u2 t⟩
    · rw [if_neg c2] at hp; omega
  · rw [hT] at hp ⊢
    by_cases c1 : a.u < 0
    · rw [if_pos c1]; exact ⟨rfl, .inl (by omega)⟩
    rw [if_neg c1] at hp ⊢
    by_cases c2 : begE Z a.u = 0
    · rw [if_pos c2] at hp
      have := begV_nonneg Z a.u; omega
    · rw [if_neg c2]
      exact ⟨rfl, .inr ((rch_begin e.2.1 (day := a.u) (by omega) (by omega)).2 c2 t)⟩

/-- Where there is none. -/
theorem spans_no {a : Mea} {Z : List (Int × Int)} {t : Int} (h : spE a Z = 10) : rchB Z t a.f = false := by
  unfold spE at h
  split at h
  · rename_i c
    split at h
    · omega
    · rename_i c2
      have hf : 0 ≤ a.f ∧ a.f ≤ 100000 := by
        have := (dated_iff.1 c.1).1
        simp only [Bool.and_eq_true] at this
        exact inR_iff.1 this.1.1
      exact (rch_begin c.2 (by omega) (by omega)).2 c2 t
  · omega
end Go.Den
