/-
  The first instant of a day, in plain numbers: the least instant whose local time has reached it. Conditions: as each statement says.
-/
import Derived.Test.YtanckiphgbnfpaaDoorDenW12
namespace Go.Den
open Go.Proofs
set_option linter.unusedSimpArgs false
set_option linter.unusedVariables false

/-- The offset at an instant. -/
def offAt : List (Int × Int) → Int → Int
  | [], _ => 0
  | (a, o) :: R, t => if t ≤ endOfS R then o else offAt R t

/-- Shifts from an instant on, in plain numbers. -/
theorem vZ_cons {i : Nat} {last a o : Int} {R : List (Int × Int)} (h : vZ i last ((a, o) :: R) = true) : last < a ∧ (0 ≤ a ∧ a ≤ 144001439) ∧ (-840 ≤ o ∧ o ≤ 840) ∧ vZ (i + 1) a R = true := by
  simp only [vZ, Bool.and_eq_true, decide_eq_true_eq] at h
  obtain ⟨⟨⟨⟨_, h1⟩, h2⟩, h3⟩, h4⟩ := h
  exact ⟨h1, inR_iff.1 h2, inR_iff.1 h3, h4⟩
theorem end_bound {i : Nat} {a : Int} {R : List (Int × Int)} (ha : 0 ≤ a ∧ a ≤ 144001439) (h : vZ i a R = true) : a ≤ endOfS R ∧ endOfS R ≤ 144001439 := by
  cases R with
  | nil => simp [endOfS]; omega
  | cons p R =>
    obtain ⟨a', o'⟩ := p
    obtain ⟨h1, h2, _, _⟩ := vZ_cons h
    simp only [endOfS]
    rw [w64_fit (by omega) (by omega)]
    omega
theorem end_cons {a o : Int} {R : List (Int × Int)} (h : 0 ≤ a ∧ a ≤ 144001439) : endOfS ((a, o) :: R) = a - 1 := by
  simp only [endOfS]
  exact w64_fit (by omega) (by omega)

theorem fI_eq {loc a o e : Int} (h1 : -100000 ≤ loc) (h2 : loc ≤ 200000000) (ho : -840 ≤ o ∧ o ≤ 840) : w64 (loc - o) = loc - o := w64_fit (by omega) (by omega)

theorem max_spec (a x : Int) : ∃ V, (if a < x then x else a) = V ∧ a ≤ V ∧ x ≤ V ∧ (V = a ∨ V = x) := by
  by_cases h : a < x
  · exact ⟨x, if_pos h, by omega, by omega, .inr rfl⟩
  · exact ⟨a, if_neg h, by omega, by omega, .inl rfl⟩

/-- What Instant finds. -/
theorem inst_spec (loc : Int) (h1 : -100000 ≤ loc) (h2 : loc ≤ 200000000) : ∀ (R : List (Int × Int)) (i : Nat) (last a o : Int), vZ i last ((a, o) :: R) = true →
    (∀ t, walkS (fI loc) none ((a, o) :: R) = some t → a ≤ t ∧ t ≤ 144001439 ∧ loc ≤ t + offAt ((a, o) :: R) t ∧ ∀ t', a ≤ t' → t' ≤ 144001439 → loc ≤ t' + offAt ((a, o) :: R) t' → t ≤ t') ∧
    (walkS (fI loc) none ((a, o) :: R) = none → ∀ t', a ≤ t' → t' ≤ 144001439 → t' + offAt ((a, o) :: R) t' < loc) := by
  intro R
  induction R with
  | nil =>
    intro i last a o hv
    obtain ⟨v1, v2, v3, v4⟩ := vZ_cons hv
    have hw := fI_eq (a := a) (e := 0) h1 h2 v3
    have he : endOfS [] = 144001439 := rfl
    have hoff : ∀ t, offAt [(a, o)] t = if t ≤ 144001439 then o else 0 := fun t => rfl
    rw [walkS]
    simp only [fI, hw, he]
    obtain ⟨V, hV, V1, V2, V3⟩ := max_spec a (loc - o)
    rw [hV]
    by_cases c : V ≤ 144001439
    · simp only [if_pos c, cond_false]
      refine ⟨?_, fun h => by cases h⟩
      intro t ht
      cases ht
      rw [hoff, if_pos c]
      refine ⟨V1, c, by omega, ?_⟩
      intro t' g1 g2 g3
      rw [hoff, if_pos g2] at g3
      omega
    · simp only [if_neg c, cond_true, walkS]
      refine ⟨fun t h => (by cases h), fun _ t' g1 g2 => ?_⟩
      rw [hoff, if_pos g2]
      omega
  | cons p R ih =>
    intro i last a o hv
    obtain ⟨a', o'⟩ := p
    obtain ⟨v1, v2, v3, v4⟩ := vZ_cons hv
    obtain ⟨u1, u2, u3, u4⟩ := vZ_cons v4
    have hw := fI_eq (a := a) (e := 0) h1 h2 v3
    have he := end_cons (o := o') (R := R) u2
    obtain ⟨ih1, ih2⟩ := ih (i + 1) a a' o' v4
    rw [walkS]
    simp only [fI, hw, he]
    have hoff : ∀ t, offAt ((a, o) :: (a', o') :: R) t = if t ≤ a' - 1 then o else offAt ((a', o') :: R) t := fun t => by rw [offAt, he]
    obtain ⟨V, hV, V1, V2, V3⟩ := max_spec a (loc - o)
    rw [hV]
    by_cases c : V ≤ a' - 1
    · simp only [if_pos c, cond_false]
      refine ⟨?_, fun h => by cases h⟩
      intro t ht
      cases ht
      rw [hoff, if_pos c]
      refine ⟨V1, by omega, by omega, ?_⟩
      intro t' g1 g2 g3
      rw [hoff] at g3
      by_cases g : t' ≤ a' - 1
      · rw [if_pos g] at g3; omega
      · omega
    · simp only [if_neg c, cond_true]
      refine ⟨?_, ?_⟩
      · intro t ht
        obtain ⟨k1, k2, k3, k4⟩ := ih1 t ht
        rw [hoff, if_neg (by omega)]
        refine ⟨by omega, k2, k3, ?_⟩
        intro t' g1 g2 g3
        rw [hoff] at g3
        by_cases g : t' ≤ a' - 1
        · rw [if_pos g] at g3; omega
        · rw [if_neg g] at g3
          exact k4 t' (by omega) g2 g3
      · intro ht t' g1 g2
        rw [hoff]
        by_cases g : t' ≤ a' - 1
        · rw [if_pos g]; omega
        · rw [if_neg g]
          exact ih2 ht t' (by omega) g2

theorem locD_bound {day : Int} (h : day ≤ 100001) : -100000 ≤ locD day ∧ locD day ≤ 200000000 := by
  unfold locD
  split <;> omega
theorem locD_mono {d1 d2 : Int} (h : d1 ≤ d2) : locD d1 ≤ locD d2 := by
  unfold locD
  split <;> split <;> omega

/-- Begin finds the least instant whose local time has reached the day. -/
theorem begin_spec {Z : List (Int × Int)} (hv : valid Z = true) {day : Int} (hd : day ≤ 100001) :
    (begE Z day = 0 → (0 ≤ begV Z day ∧ begV Z day ≤ 144001439) ∧ locD day ≤ begV Z day + offAt Z (begV Z day) ∧ ∀ t, 0 ≤ t → t ≤ 144001439 → locD day ≤ t + offAt Z t → begV Z day ≤ t) ∧
    (begE Z day ≠ 0 → ∀ t, 0 ≤ t → t ≤ 144001439 → t + offAt Z t < locD day) := by
  obtain ⟨o, Z', rfl, _, _⟩ := valid_cons hv
  have hvz : vZ 0 (-1) ((0, o) :: Z') = true := by
    have := hv
    unfold valid at this
    simp only [Bool.and_eq_true] at this
    exact this.2
  obtain ⟨b1, b2⟩ := locD_bound hd
  obtain ⟨s1, s2⟩ := inst_spec (locD day) b1 b2 Z' 0 (-1) 0 o hvz
  have hE : begE ((0, o) :: Z') day = if (instS ((0, o) :: Z') day).isSome then 0 else 10 := by unfold begE; rw [if_pos hv, if_pos hd]
  have hB : begV ((0, o) :: Z') day = (instS ((0, o) :: Z') day).getD 0 := by unfold begV; rw [if_pos ⟨hv, hd⟩]
  rw [hE, hB]
  cases hi : instS ((0, o) :: Z') day with
  | none => exact ⟨fun h => by simp at h, fun _ t g1 g2 => s2 hi t g1 g2⟩
  | some t =>
    obtain ⟨k1, k2, k3, k4⟩ := s1 t hi
    exact ⟨fun _ => ⟨⟨k1, k2⟩, k3, k4⟩, fun h => by simp at h⟩

/-- A later day begins later. -/
theorem begin_mono {Z : List (Int × Int)} (hv : valid Z = true) {d1 d2 : Int} (h : d1 ≤ d2) (hd : d2 ≤ 100001) (he : begE Z d2 = 0) : begE Z d1 = 0 ∧ begV Z d1 ≤ begV Z d2 := by
  obtain ⟨⟨k0, k1⟩, k2, _⟩ := (begin_spec hv hd).1 he
  have hl := locD_mono h
  have s := begin_spec hv (show d1 ≤ 100001 by omega)
  by_cases e1 : begE Z d1 = 0
  · exact ⟨e1, (s.1 e1).2.2 _ k0 k1 (by omega)⟩
  · have := s.2 e1 _ k0 k1; omega
end Go.Den
