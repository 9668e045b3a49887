/-
  Spans. Conditions: as each statement says.
-/
import Derived.Test.YtanckiphgbnfpaaDoorDenW8
namespace Go.Den
open Go.Proofs
set_option linter.unusedSimpArgs false
set_option linter.unusedVariables false

def spE (a : Mea) (Z : List (Int × Int)) : Int := if a.dated = true ∧ valid Z = true then (if begE Z a.f = 0 then 0 else 10) else 1
def spF (a : Mea) (Z : List (Int × Int)) : Int := if spE a Z = 0 then begV Z a.f else 0
def spT (a : Mea) (Z : List (Int × Int)) : Int := if spE a Z = 0 then (if a.u < 0 then -1 else if begE Z a.u = 0 then begV Z a.u else -1) else 0

set_option maxHeartbeats 4000000 in
theorem p11 (a : Mea) {b : AV} {Z : List (Int × Int)} (h : ShL b Z) (m : AMem) (k : Nat) (hZ : Z.length ≤ 1000000) (hk : Z.length < k) : pcall (den Tryd.prog cfg1 (k+5)) 11 [a.av, .agg [b]] m = some (.tup [I (spF a Z), I (spT a Z), I (spE a Z)]) := by
  have h22 := fun m => p22 a m (k + 2)
  have h23 := fun m => p23 h m (k + 2) hZ (by omega)
  have hf := fun m => p19 h a.f m k hZ hk
  have hu := fun m => p19 h a.u m k hZ hk
  simp only [Mea.av] at h22 ⊢
  have key : ∃ m', den Tryd.prog cfg1 (k+5) (.call 11 [.agg [a.x0, a.x1, I a.k, a.x3, a.x4, a.x5, a.x6, a.x7, a.x8, I a.f, I a.u, I a.w], .agg [b]]) { m with ro := m.blks.length, live := [] } = some (.tup [I (spF a Z), I (spT a Z), I (spE a Z)], m') := by
    rw [den_call Tryd.func11 rfl]
    cases c1 : a.dated
    · simp -implicitDefEqProofs [Tryd.f11, h22, c1, spF, spT, spE, get_app_len]
    cases c2 : valid Z
    · simp -implicitDefEqProofs [Tryd.f11, h22, h23, c1, c2, spF, spT, spE, get_app_len]
    by_cases c3 : begE Z a.f = 0
    case neg => simp -implicitDefEqProofs [Tryd.f11, h22, h23, hf, c1, c2, c3, spF, spT, spE, get_app_len]
    by_cases c4 : a.u < 0
    · simp -implicitDefEqProofs [Tryd.f11, h22, h23, hf, hu, c1, c2, c3, c4, spF, spT, spE, get_app_len]
    · by_cases c5 : begE Z a.u = 0 <;> simp -implicitDefEqProofs [Tryd.f11, h22, h23, hf, hu, c1, c2, c3, c4, c5, spF, spT, spE, get_app_len]
  obtain ⟨m', key⟩ := key
  rw [pcall_of key]
  simp

theorem walk_nonneg : ∀ (R : List (Int × Int)) (i : Nat) (last loc t : Int), vZ i last R = true → walkS (fI loc) none R = some t → 0 ≤ t
  | [], _, _, _, _, _, h => by simp [walkS] at h
  | (a, o) :: R, i, last, loc, t, hv, h => by
    simp only [vZ, Bool.and_eq_true, decide_eq_true_eq] at hv
    obtain ⟨⟨⟨_, h2⟩, _⟩, h4⟩ := hv
    rw [inR_iff] at h2
    unfold walkS at h
    by_cases c : (if a < w64 (loc - o) then w64 (loc - o) else a) ≤ endOfS R
    · simp only [fI, if_pos c, cond_false] at h
      cases h
      split <;> omega
    · simp only [fI, if_neg c, cond_true] at h
      exact walk_nonneg R _ _ _ _ h4 h
theorem begV_nonneg (Z : List (Int × Int)) (day : Int) : 0 ≤ begV Z day := by
  unfold begV
  split
  · rename_i h
    cases hi : instS Z day with
    | none => simp
    | some t =>
      have hv := h.1
      unfold valid at hv
      simp only [Bool.and_eq_true] at hv
      exact walk_nonneg Z 0 (-1) _ t hv.2 hi
  · omega

set_option maxHeartbeats 4000000 in
theorem p12 (a : Mea) {b : AV} {Z : List (Int × Int)} (h : ShL b Z) (m : AMem) (k : Nat) (hZ : Z.length ≤ 1000000) (hk : Z.length < k) : pcall (den Tryd.prog cfg1 (k+5)) 12 [a.av, .agg [b]] m = some (.tup [I (spF a Z), I (spT a Z), I (spE a Z)]) := by
  have h24 := fun m => p24 a m (k + 2)
  have h25 := fun m => p25 h m (k + 2) hZ (by omega)
  have hf := fun m => p26 h a.f m k hZ hk
  have hu := fun m => p26 h a.u m k hZ hk
  have nn := begV_nonneg Z a.f
  have nn' : ¬ begV Z a.f < 0 := by omega
  simp only [Mea.av] at h24 ⊢
  have key : ∃ m', den Tryd.prog cfg1 (k+5) (.call 12 [.agg [a.x0, a.x1, I a.k, a.x3, a.x4, a.x5, a.x6, a.x7, a.x8, I a.f, I a.u, I a.w], .agg [b]]) { m with ro := m.blks.length, live := [] } = some (.tup [I (spF a Z), I (spT a Z), I (spE a Z)], m') := by
    rw [den_call Tryd.func12 rfl]
    cases c1 : a.dated
    · simp -implicitDefEqProofs [Tryd.f12, h24, c1, spF, spT, spE, get_app_len]
    cases c2 : valid Z
    · simp -implicitDefEqProofs [Tryd.f12, h24, h25, c1, c2, spF, spT, spE, get_app_len]
    by_cases c3 : begE Z a.f = 0
    case neg => simp -implicitDefEqProofs [Tryd.f12, h24, h25, hf, begR, c1, c2, c3, spF, spT, spE, get_app_len]
    by_cases c4 : a.u < 0
    · have c4' : ¬ 0 ≤ a.u := by omega
      simp -implicitDefEqProofs [Tryd.f12, h24, h25, hf, hu, begR, nn', c1, c2, c3, c4, c4', spF, spT, spE, get_app_len]
    · have c4' : 0 ≤ a.u := by omega
      by_cases c5 : begE Z a.u = 0 <;> simp -implicitDefEqProofs [Tryd.f12, h24, h25, hf, hu, begR, nn', c1, c2, c3, c4, c4', c5, spF, spT, spE, get_app_len]
  obtain ⟨m', key⟩ := key
  rw [pcall_of key]
  simp

/-- Whether a measure applies. -/
def apB (a : Mea) (Z : List (Int × Int)) (sg nw : Int) : Bool :=
  decide (spE a Z = 0) && inR sg 0 144001439 && inR nw 0 144001439 && decide (spF a Z ≤ nw) && !(decide (0 ≤ spT a Z) && decide (spT a Z ≤ nw)) &&
    (decide (spF a Z ≤ sg) || (decide (begE Z (w64 (a.f + a.w)) = 0) && decide (begV Z (w64 (a.f + a.w)) ≤ nw)))

set_option maxHeartbeats 8000000 in
theorem p13 (a : Mea) {b : AV} {Z : List (Int × Int)} (h : ShL b Z) (sg nw : Int) (m : AMem) (k : Nat) (hZ : Z.length ≤ 1000000) (hk : Z.length < k) : pcall (den Tryd.prog cfg1 (k+6)) 13 [a.av, .agg [b], I sg, I nw] m = some (B (apB a Z sg nw)) := by
  have h11 := fun m => p11 a h m k hZ hk
  have hw := fun m => p19 h (w64 (a.f + a.w)) m (k + 1) hZ (by omega)
  simp only [Mea.av] at h11 ⊢
  refine pcall_v ?_
  rw [den_call Tryd.func13 rfl]
  unfold apB
  by_cases c1 : spE a Z = 0
  case neg => simp -implicitDefEqProofs [Tryd.f13, h11, c1, get_app_len]
  cases c2 : inR sg 0 144001439
  · simp -implicitDefEqProofs [Tryd.f13, h11, c1, c2, get_app_len]
  cases c3 : inR nw 0 144001439
  · simp -implicitDefEqProofs [Tryd.f13, h11, c1, c2, c3, get_app_len]
  by_cases c4 : nw < spF a Z
  · have c4' : ¬ spF a Z ≤ nw := by omega
    simp -implicitDefEqProofs [Tryd.f13, h11, c1, c2, c3, c4, c4', get_app_len]
  have c4' : spF a Z ≤ nw := by omega
  have tail : ∀ (f : Prop) [Decidable f], True := fun _ _ => trivial
  by_cases c5 : 0 ≤ spT a Z
  · by_cases c6 : spT a Z ≤ nw
    · simp -implicitDefEqProofs [Tryd.f13, h11, c1, c2, c3, c4, c4', c5, c6, get_app_len]
    · by_cases c7 : spF a Z ≤ sg
      · simp -implicitDefEqProofs [Tryd.f13, h11, c1, c2, c3, c4, c4', c5, c6, c7, get_app_len]
      · by_cases c8 : begE Z (w64 (a.f + a.w)) = 0
        · by_cases c9 : begV Z (w64 (a.f + a.w)) ≤ nw <;> simp -implicitDefEqProofs [Tryd.f13, h11, hw, c1, c2, c3, c4, c4', c5, c6, c7, c8, c9, get_app_len]
        · simp -implicitDefEqProofs [Tryd.f13, h11, hw, c1, c2, c3, c4, c4', c5, c6, c7, c8, get_app_len]
  · by_cases c7 : spF a Z ≤ sg
    · simp -implicitDefEqProofs [Tryd.f13, h11, c1, c2, c3, c4, c4', c5, c7, get_app_len]
    · by_cases c8 : begE Z (w64 (a.f + a.w)) = 0
      · by_cases c9 : begV Z (w64 (a.f + a.w)) ≤ nw <;> simp -implicitDefEqProofs [Tryd.f13, h11, hw, c1, c2, c3, c4, c4', c5, c7, c8, c9, get_app_len]
      · simp -implicitDefEqProofs [Tryd.f13, h11, hw, c1, c2, c3, c4, c4', c5, c7, c8, get_app_len]
end Go.Den
