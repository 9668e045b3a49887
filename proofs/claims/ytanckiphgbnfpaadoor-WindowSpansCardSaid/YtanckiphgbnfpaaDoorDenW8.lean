/-
  The reference's Begin. Conditions: as each statement says.
-/
import Derived.Test.YtanckiphgbnfpaaDoorDenW7
namespace Go.Den
open Go.Proofs
set_option linter.unusedSimpArgs false
set_option linter.unusedVariables false

theorem valid_cons {Z : List (Int × Int)} (h : valid Z = true) : ∃ o Z', Z = (0, o) :: Z' ∧ inR o (-840) 840 = true ∧ vZ 1 0 Z' = true := by
  unfold valid at h
  cases Z with
  | nil => simp at h
  | cons p Z' =>
    obtain ⟨f, o⟩ := p
    simp only [vZ, Bool.and_eq_true, decide_eq_true_eq, Nat.lt_irrefl, decide_false, Bool.false_or] at h
    obtain ⟨_, ⟨⟨⟨h1, h2⟩, h3⟩, h4⟩, h5⟩ := h
    subst h1
    exact ⟨o, Z', rfl, h4, h5⟩

theorem end_nonneg {Z : List (Int × Int)} (h : vZ 1 0 Z = true) : 0 ≤ endOfS Z := by
  cases Z with
  | nil => simp [endOfS]
  | cons p Z =>
    obtain ⟨f, o⟩ := p
    simp only [vZ, Bool.and_eq_true, decide_eq_true_eq] at h
    obtain ⟨⟨⟨⟨_, h1⟩, h2⟩, _⟩, _⟩ := h
    rw [inR_iff] at h2
    simp only [endOfS]
    rw [w64_fit (by omega) (by omega)]
    omega

theorem inst_low {Z : List (Int × Int)} (h : valid Z = true) {day : Int} (hd : day < -1) : instS Z day = some 0 := by
  obtain ⟨o, Z', rfl, ho, hv⟩ := valid_cons h
  rw [inR_iff] at ho
  have he := end_nonneg hv
  have hl : locD day = -2880 := by
    unfold locD
    by_cases h : day < -2
    · simp [h]
    · have : day = -2 := by omega
      subst this; rfl
  unfold instS walkS fI
  rw [hl]
  have hw : w64 (-2880 - o) = -2880 - o := w64_fit (by omega) (by omega)
  rw [hw]
  have c : ¬ o < -2880 := by omega
  simp [c, he]

theorem locD_eq {day : Int} (h : ¬ day < -1) : locD day = day * 1440 := by
  unfold locD
  rw [if_neg (by omega)]

theorem p41 {a : AV} {Z : List (Int × Int)} (h : ShL a Z) (day : Int) (m : AMem) (k : Nat) (hZ : Z.length ≤ 1000000) (hk : Z.length < k) : pcall (den Tryd.prog cfg1 (k+3)) 41 [.agg [a], I day, I 0] m = some (.tup [I (begV Z day), I (begE Z day)]) := by
  have hV := fun m => p25 h m k hZ hk
  have key : ∃ m', den Tryd.prog cfg1 (k+3) (.call 41 [.agg [a], I day, I 0]) { m with ro := m.blks.length, live := [] } = some (.tup [I (begV Z day), I (begE Z day)], m') := by
    rw [den_call Tryd.func41 rfl]
    cases hv : valid Z
    · simp -implicitDefEqProofs [-loopN_succ, Tryd.f41, hV, hv, begV, begE, get_app_len]
    by_cases hd : 100001 < day
    · have hd' : ¬ day ≤ 100001 := by omega
      simp -implicitDefEqProofs [-loopN_succ, Tryd.f41, hV, hv, begV, begE, get_app_len, hd, hd']
    have hd' : day ≤ 100001 := by omega
    by_cases hl : day < -1
    · have := inst_low hv hl
      simp -implicitDefEqProofs [-loopN_succ, Tryd.f41, hV, hv, begV, begE, get_app_len, hd, hd', hl, this]
    rcases h with ⟨rfl, rfl⟩ | ⟨c, hcv, rfl⟩
    · simp [valid] at hv
    · have hw : IntKind.i64.wrap (day * 1440) = day * 1440 := wrap_fit (by omega) (by omega)
      simp -implicitDefEqProofs [-loopN_succ, Tryd.f41, hV, hv, get_app_len, hd, hd', hl, hw]
      generalize hx : loopN _ _ _ _ = x
      have hE : End41 x (instS Z day) ⟨m.blks ++ [.arr [.agg [.sl 2 (Z.map shv) c]] 1], m.next, [], m.blks.length⟩ := by
        rw [← hx]
        unfold instS
        rw [locD_eq hl]
        have hlp := loop41 Z c ⟨m.blks ++ [.arr [.agg [.sl 2 (Z.map shv) c]] 1], m.next, [], m.blks.length⟩ (day * 1440) m.blks.length (k + 2) hZ (by simp [get_app_len]) Z (k + 2) 0
        simp -implicitDefEqProofs [-loopN_succ, loopOf, loopsOf, codeOf, Tryd.f41] at hlp
        exact hlp _ rfl rfl rfl rfl (by omega)
      obtain ⟨s', rfl, hs, hk⟩ := hE
      cases hr : instS Z day with
      | none => simp -implicitDefEqProofs [hs, begV, begE, hv, hd', hr]
      | some t =>
        obtain ⟨k6, k7⟩ := hk t hr
        simp -implicitDefEqProofs [hs, begV, begE, hv, hd', hr, k6, k7]
  obtain ⟨m', key⟩ := key
  rw [pcall_of key]
  simp

/-- The reference's Begin. -/
def begR (Z : List (Int × Int)) (day : Int) : Int := if begE Z day = 0 then begV Z day else -1
theorem p26 {a : AV} {Z : List (Int × Int)} (h : ShL a Z) (day : Int) (m : AMem) (k : Nat) (hZ : Z.length ≤ 1000000) (hk : Z.length < k) : pcall (den Tryd.prog cfg1 (k+4)) 26 [.agg [a], I day] m = some (I (begR Z day)) := by
  have h41 := fun m => p41 h day m k hZ hk
  refine pcall_v ?_
  rw [den_call Tryd.func26 rfl]
  unfold begR
  by_cases he : begE Z day = 0 <;> simp -implicitDefEqProofs [Tryd.f26, h41, get_app_len, he]

set_option maxHeartbeats 4000000 in
@[simp] theorem p24 (a : Mea) (m : AMem) (k : Nat) : pcall (den Tryd.prog cfg1 (k+2)) 24 [a.av] m = some (B a.dated) := by
  refine pcall_v ?_
  rw [den_call Tryd.func24 rfl]
  unfold Mea.dated
  cases h1 : inR a.f 0 100000
  · simp -implicitDefEqProofs [Tryd.f24, Mea.av, h1]
  have tail : ∀ b, (inR a.w 0 400 && (decide (a.w ≤ 0) || decide (a.k = 1)) && b) = (if a.w = 0 then b else if a.k = 1 then (if 0 < a.w then (if a.w ≤ 400 then b else false) else false) else false) := by
    intro b
    by_cases q1 : a.w = 0
    · simp [q1, inR]
    by_cases q2 : a.k = 1
    · by_cases q3 : 0 < a.w
      · by_cases q4 : a.w ≤ 400
        · have : inR a.w 0 400 = true := by simp [inR]; omega
          simp [q1, q2, q3, q4, this]
        · have : inR a.w 0 400 = false := by simp [inR]; omega
          simp [q1, q2, q3, q4, this]
      · have : inR a.w 0 400 = false := by simp [inR]; omega
        simp [q1, q2, q3, this]
    · by_cases q5 : a.w ≤ 0
      · have : inR a.w 0 400 = false := by simp [inR]; omega
        simp [q1, q2, this]
      · simp [q1, q2, q5]
  simp only [Bool.true_and]
  rw [tail]
  by_cases h6 : a.u = -1
  · by_cases q1 : a.w = 0
    · simp -implicitDefEqProofs [Tryd.f24, Mea.av, h1, h6, q1]
    by_cases q2 : a.k = 1
    · by_cases q3 : 0 < a.w
      · by_cases q4 : a.w ≤ 400 <;> simp -implicitDefEqProofs [Tryd.f24, Mea.av, h1, h6, q1, q2, q3, q4]
      · simp -implicitDefEqProofs [Tryd.f24, Mea.av, h1, h6, q1, q2, q3]
    · simp -implicitDefEqProofs [Tryd.f24, Mea.av, h1, h6, q1, q2]
  cases h7 : inR a.u 0 100000
  · simp -implicitDefEqProofs [Tryd.f24, Mea.av, h1, h6, h7]
  by_cases h8 : a.u ≤ a.f
  · have h8' : ¬ a.f < a.u := by omega
    simp -implicitDefEqProofs [Tryd.f24, Mea.av, h1, h6, h7, h8, h8']
  have h8' : a.f < a.u := by omega
  by_cases q1 : a.w = 0
  · simp -implicitDefEqProofs [Tryd.f24, Mea.av, h1, h6, h7, h8, h8', q1]
  by_cases q2 : a.k = 1
  · by_cases q3 : 0 < a.w
    · by_cases q4 : a.w ≤ 400 <;> simp -implicitDefEqProofs [Tryd.f24, Mea.av, h1, h6, h7, h8, h8', q1, q2, q3, q4]
    · simp -implicitDefEqProofs [Tryd.f24, Mea.av, h1, h6, h7, h8, h8', q1, q2, q3]
  · simp -implicitDefEqProofs [Tryd.f24, Mea.av, h1, h6, h7, h8, h8', q1, q2]
end Go.Den
