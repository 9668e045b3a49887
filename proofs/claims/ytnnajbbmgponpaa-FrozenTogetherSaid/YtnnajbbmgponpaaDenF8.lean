/-
  The law of accounts together. Conditions: as each statement says.
-/
import Derived.Test.YtnnajbbmgponpaaDenP1
import Derived.Test.YtnnajbbmgponpaaDenF4
namespace Go.Den
open Go.Proofs
set_option linter.unusedSimpArgs false

theorem intE_one (d u to : Int) : intE [(d, u)] false to = if inR to 0 100000 then (if to < d then 14 else 0) else 1 := by
  simp [intE, lastDay]
theorem intV_one {r v d u : Int} (to : Int) (f : Bool) (h : okNew r v d u = true) (he : intE [(d, u)] false to = 0) : intV r v [(d, u)] false to f = u * (to - d) * (if f then v else r) / 3650000 := by
  have h' := okNew_iff.1 h
  unfold intV
  rw [if_pos he]
  rw [intE_one] at he
  cases hi : inR to 0 100000
  · simp [hi] at he
  rw [inR_iff] at hi
  by_cases hd : to < d
  · simp [hd, inR_iff.2 hi] at he
  have ht := totI_good (good_new h) (day := to) (by simp [lastDay]; omega) hi.2
  rw [ht.1]
  have hr : 0 ≤ (if f = true then v else r) ∧ (if f = true then v else r) ≤ 10000 := by cases f <;> simp <;> omega
  rw [valI_eq ht.2.1 ht.2.2 hr.1 hr.2, totZ_one]

theorem intV_bound {r v d u : Int} (to : Int) (f : Bool) (h : okNew r v d u = true) (he : intE [(d, u)] false to = 0) : 0 ≤ intV r v [(d, u)] false to f ∧ intV r v [(d, u)] false to f ≤ 1000000000000000 := by
  have h' := okNew_iff.1 h
  unfold intV
  rw [if_pos he]
  rw [intE_one] at he
  cases hi : inR to 0 100000
  · simp [hi] at he
  rw [inR_iff] at hi
  by_cases hd : to < d
  · simp [hd, inR_iff.2 hi] at he
  have ht := totI_good (good_new h) (day := to) (by simp [lastDay]; omega) hi.2
  rw [ht.1]
  have hr : 0 ≤ (if f = true then v else r) ∧ (if f = true then v else r) ≤ 10000 := by cases f <;> simp <;> omega
  rw [valI_eq ht.2.1 ht.2.2 hr.1 hr.2]
  have b0 : 0 ≤ totZ [(d, u)] to * (if f = true then v else r) := Int.mul_nonneg ht.2.1 hr.1
  have b1 : totZ [(d, u)] to * (if f = true then v else r) ≤ 100000000000000000 * 10000 := Int.mul_le_mul ht.2.2 hr.2 hr.1 (by omega)
  omega

theorem together (r v d x y to : Int) (f : Bool) (h1 : okNew r v d x = true) (h2 : okNew r v d y = true) (h3 : okNew r v d (w64 (x + y)) = true) :
    w64 (intV r v [(d, x)] false to f + intV r v [(d, y)] false to f) ≤ intV r v [(d, w64 (x + y))] false to f ∧ intV r v [(d, w64 (x + y))] false to f ≤ w64 (w64 (intV r v [(d, x)] false to f + intV r v [(d, y)] false to f) + 1) := by
  by_cases he : intE [(d, x)] false to = 0
  · have a1 := okNew_iff.1 h1
    have a2 := okNew_iff.1 h2
    have hxy : w64 (x + y) = x + y := w64_fit (by omega) (by omega)
    have b1 := intV_bound to f h1 he
    have b2 := intV_bound to f h2 he
    have z1 := w64_fit (n := intV r v [(d, x)] false to f + intV r v [(d, y)] false to f) (by omega) (by omega)
    have z2 := w64_fit (n := intV r v [(d, x)] false to f + intV r v [(d, y)] false to f + 1) (by omega) (by omega)
    rw [z1, z2]
    rw [hxy] at h3 ⊢
    rw [intV_one to f h1 he, intV_one to f h2 he, intV_one to f h3 he]
    have : (x + y) * (to - d) * (if f = true then v else r) = x * (to - d) * (if f = true then v else r) + y * (to - d) * (if f = true then v else r) := by rw [Int.add_mul, Int.add_mul]
    rw [this]
    generalize x * (to - d) * (if f = true then v else r) = A
    generalize y * (to - d) * (if f = true then v else r) = C
    omega
  · have he2 : ¬ intE [(d, y)] false to = 0 := he
    have he3 : ¬ intE [(d, w64 (x + y))] false to = 0 := he
    simp [intV, he, he2, he3]

set_option maxHeartbeats 4000000 in
set_option maxRecDepth 100000 in
theorem d5 (k : Nat) (hh : pcall (den Try.prog cfg0 (k + 10)) 9 [] M0 = some (B true)) (r v d x y to : Int) (f : Bool) :
    ∃ m', den Try.prog cfg0 (k + 11) (.call 5 [I r, I v, I d, I x, I y, I to, B f]) M0 = some (B true, m') := by
  rw [den_call Try.func5 rfl]
  have hd := fun y m hro => d10 r v d y m (k + 7) hro
  cases h1 : okNew r v d x
  · cases h2 : okNew r v d y <;> cases h3 : okNew r v d (w64 (x + y)) <;> simp -implicitDefEqProofs [Try.f5, hh, hd, h1, h2, h3]
  cases h2 : okNew r v d y
  · cases h3 : okNew r v d (w64 (x + y)) <;> simp -implicitDefEqProofs [Try.f5, hh, hd, h1, h2, h3]
  cases h3 : okNew r v d (w64 (x + y))
  · simp -implicitDefEqProofs [Try.f5, hh, hd, h1, h2, h3]
  have g1 := fun nx lv ro => p12 0 ⟨[acc r v [(d, x)] .tight false, acc r v [(d, y)] .tight false, acc r v [(d, w64 (x + y))] .tight false], nx, lv, ro⟩ (k + 4) r v to f false [(d, x)] .tight rfl (by simp) rfl (by simp) (by simp) (by simp)
  have g2 := fun nx lv ro => p12 1 ⟨[acc r v [(d, x)] .tight false, acc r v [(d, y)] .tight false, acc r v [(d, w64 (x + y))] .tight false], nx, lv, ro⟩ (k + 4) r v to f false [(d, y)] .tight rfl (by simp) rfl (by simp) (by simp) (by simp)
  have g3 := fun nx lv ro => p12 2 ⟨[acc r v [(d, x)] .tight false, acc r v [(d, y)] .tight false, acc r v [(d, w64 (x + y))] .tight false], nx, lv, ro⟩ (k + 4) r v to f false [(d, w64 (x + y))] .tight rfl (by simp) rfl (by simp) (by simp) (by simp)
  have e2 : intE [(d, y)] false to = intE [(d, x)] false to := rfl
  have e3 : intE [(d, w64 (x + y))] false to = intE [(d, x)] false to := rfl
  have ht := together r v d x y to f h1 h2 h3
  simp (maxSteps := 2000000) -implicitDefEqProofs [Try.f5, hh, hd, h1, h2, h3, g1, g2, g3, e2, e3, ht.1, ht.2]
end Go.Den
