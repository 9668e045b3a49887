/-
  The law of days. Conditions: as each statement says.
-/
import Derived.Test.YtnnajbbmgponpaaDenP2
import Derived.Test.YtnnajbbmgponpaaDenF4
namespace Go.Den
open Go.Proofs
set_option linter.unusedSimpArgs false

set_option maxHeartbeats 4000000 in
set_option maxRecDepth 100000 in
theorem d3 (k : Nat) (hk : 100 < k) (hh : pcall (den Try.prog cfg0 (k + 10)) 9 [] M0 = some (B true)) (r v d u to : Int) (f : Bool) (a : AV) (S : List Stp) (ha : StpL a S) :
    ∃ m', den Try.prog cfg0 (k + 11) (.call 3 [I r, I v, I d, I u, a, I to, B f]) M0 = some (B true, m') := by
  rw [den_call Try.func3 rfl]
  have hd := fun y m hro => d10 r v d y m (k + 7) hro
  have hlen := ha.len
  cases h1 : okNew r v d u
  · simp -implicitDefEqProofs [-loopN_succ, Try.f3, hh, hd, h1]
  have hnew := okNew_iff.1 h1
  have hg0 : Good [(d, u)] := good_new h1
  by_cases h2 : S.length ≤ 12
  case neg =>
    have h2' : 12 < (S.length : Int) := by omega
    simp -implicitDefEqProofs [-loopN_succ, -lenA, hlen, Try.f3, hh, hd, h1, h2']
  have h2' : ¬ 12 < (S.length : Int) := by omega
  by_cases h3 : to < 0
  · simp -implicitDefEqProofs [-loopN_succ, -lenA, hlen, Try.f3, hh, hd, h1, h2', h3]
  by_cases h4 : 100000 ≤ to
  · simp -implicitDefEqProofs [-loopN_succ, -lenA, hlen, Try.f3, hh, hd, h1, h2', h3, h4]
  have h5 : w64 (to + 1) = to + 1 := w64_fit (by omega) (by omega)
  have hok0 : AS.Ok 1 ⟨[(d, u)], .tight, 0, []⟩ := ⟨by simp, by simp, trivial⟩
  have hg := AS.good (s := ⟨[(d, u)], .tight, 0, []⟩) hg0 S
  have hok := AS.ok_fold S hok0
  obtain ⟨y18, y50, y51, y52, y53, y54, y55, y56, y57, y58, y59, y60, y61, hl⟩ := loop3a r v S a ha k h2 hk ⟨[(d, u)], .tight, 0, []⟩ hok0
  generalize S.foldl AS.step ⟨[(d, u)], .tight, 0, []⟩ = s at hg hok hl
  obtain ⟨g1, g2, g3⟩ := hok
  have g4 := fun nx lv ro (hc : convCap nx s.c = s.c) => p12 0 ⟨[acc r v s.L s.c false], nx, lv, ro⟩ (k + 4) r v to f false s.L s.c hc (by simp) rfl (by omega) (by omega) g1
  have g5 := fun nx lv ro (hc : convCap nx s.c = s.c) => p12 0 ⟨[acc r v s.L s.c false], nx, lv, ro⟩ (k + 4) r v (to + 1) f false s.L s.c hc (by simp) rfl (by omega) (by omega) g1
  have g6 := fun nx lv ro => p13 0 ⟨[acc r v s.L s.c false], nx, lv, ro⟩ (k + 6) r v s.L s.c false (by simp) rfl (by omega) (by omega)
  have hcv := g3.conv
  simp -implicitDefEqProofs [-loopN_succ, -lenA, hlen, loopOf, loopsOf, codeOf, Try.f3, AS.mem] at hl
  by_cases he : intE s.L false to = 0
  · obtain ⟨q1, q2, q3, q4⟩ := days hg (f := f) hnew.1 hnew.2.1 (by omega) he
    cases f <;> simp (maxSteps := 2000000) -implicitDefEqProofs [-loopN_succ, -lenA, hlen, Try.f3, hh, hd, h1, h2', h3, h4, h5, hl, g4, g5, g6, hcv, he, AS.mem, q1, q2] <;> simp at q3 q4 <;> simp [q3, q4]
  · have hv : intV r v s.L false to f = 0 := by simp [intV, he]
    simp -implicitDefEqProofs [-loopN_succ, -lenA, hlen, Try.f3, hh, hd, h1, h2', h3, h4, h5, hl, g4, g5, g6, hcv, he, hv, AS.mem]
end Go.Den
