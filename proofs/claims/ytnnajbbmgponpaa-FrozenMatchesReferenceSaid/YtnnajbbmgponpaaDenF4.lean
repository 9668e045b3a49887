/-
  A nil account: all functions that can fail have ErrArg. Conditions: none.
-/
import Derived.Test.YtnnajbbmgponpaaDenF3
namespace Go.Den
open Go.Proofs
set_option linter.unusedSimpArgs false

/-- The memory in which a law's function begins. -/
abbrev M0 : AMem := ⟨[], 0, [], 0⟩

set_option maxRecDepth 100000 in
theorem prog_ok : progOk Try.prog = true := by kernel_rfl
set_option maxRecDepth 100000 in
theorem head_ok : pcall (den Try.prog cfg0 (990 + 10)) 9 [] M0 = some (B true) := by kernel_rfl

@[simp] theorem shrink_nil (nx : Nat) (lv : List Nat) (ro n : Nat) : (⟨[], nx, lv, ro⟩ : AMem).shrink n = ⟨[], nx, lv, ro⟩ := by simp [AMem.shrink]

@[simp] theorem m20_nil (k : Nat) (d : Int) (f : Bool) : mcall (den Try.prog cfg0 (k+5)) 20 [nilP, I d, B f] M0 = some (.tup [I 0, I 0, I 1], M0) := by
  unfold mcall
  rw [den_call Try.func20 rfl]
  simp [Try.f20]
@[simp] theorem m22_nil (k : Nat) (d u : Int) : mcall (den Try.prog cfg0 (k+5)) 22 [nilP, I d, I u] M0 = some (I 1, M0) := by
  unfold mcall
  rw [den_call Try.func22 rfl]
  simp [Try.f22]
@[simp] theorem m23_nil (k : Nat) (d u : Int) (f : Bool) : mcall (den Try.prog cfg0 (k+5)) 23 [nilP, I d, I u, B f] M0 = some (I 1, M0) := by
  unfold mcall
  rw [den_call Try.func23 rfl]
  simp [Try.f23]
@[simp] theorem m14_nil (k : Nat) (d u : Int) : mcall (den Try.prog cfg0 (k+5)) 14 [nilP, I d, I u] M0 = some (I 1, M0) := by
  unfold mcall
  rw [den_call Try.func14 rfl]
  simp [Try.f14, AMem.shrink]

theorem d7 (k : Nat) (hh : pcall (den Try.prog cfg0 (k + 10)) 9 [] M0 = some (B true)) (d u i : Int) (f : Bool) : den Try.prog cfg0 (k + 11) (.call 7 [I d, I u, I i, B f]) M0 = some (B true, M0) := by
  rw [den_call Try.func7 rfl]
  simp -implicitDefEqProofs [Try.f7, hh]
end Go.Den
