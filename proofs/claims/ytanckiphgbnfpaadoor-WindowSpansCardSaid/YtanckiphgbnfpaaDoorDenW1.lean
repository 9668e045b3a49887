/-
  Days, instants, dated measures. Conditions: as each statement says.
-/
import Derived.Test.YtanckiphgbnfpaaDoorDenTy
namespace Go.Den
open Go.Proofs
def cfg1 : FuncId → FCfg := fun f =>
  match f with
  | 31 | 33 | 44 | 38 | 48 | 56 | 49 | 50 | 57 => ⟨.keep, []⟩
  | _ => ⟨.pure, []⟩
attribute [simp] cfg1
set_option linter.unusedSimpArgs false
/-- A number lies between two. -/
def inR (n lo hi : Int) : Bool := decide (lo ≤ n) && decide (n ≤ hi)
theorem inR_iff {n lo hi : Int} : inR n lo hi = true ↔ lo ≤ n ∧ n ≤ hi := by simp [inR]
abbrev w64 (n : Int) : Int := IntKind.i64.wrap n
theorem w64_fit {n : Int} (h1 : -9223372036854775808 ≤ n) (h2 : n ≤ 9223372036854775807) : w64 n = n := wrap_fit h1 h2

theorem range_tac (n lo hi : Int) : (if lo ≤ n then decide (n ≤ hi) else false) = inR n lo hi := by
  unfold inR; by_cases h : lo ≤ n <;> simp [h]

@[simp] theorem p39 (n : Int) (m : AMem) (k : Nat) : pcall (den Tryd.prog cfg1 (k+1)) 39 [I n] m = some (B (inR n 0 100000)) := by
  refine pcall_v ?_
  rw [den_call Tryd.func39 rfl]
  unfold inR
  by_cases h1 : 0 ≤ n <;> by_cases h2 : n ≤ 100000 <;> simp [Tryd.f39, h1, h2]
@[simp] theorem p40 (n : Int) (m : AMem) (k : Nat) : pcall (den Tryd.prog cfg1 (k+1)) 40 [I n] m = some (B (inR n 0 100000)) := by
  refine pcall_v ?_
  rw [den_call Tryd.func40 rfl]
  unfold inR
  by_cases h1 : 0 ≤ n <;> by_cases h2 : n ≤ 100000 <;> simp [Tryd.f40, h1, h2]
@[simp] theorem p37 (n : Int) (m : AMem) (k : Nat) : pcall (den Tryd.prog cfg1 (k+1)) 37 [I n] m = some (B (inR n 0 144001439)) := by
  refine pcall_v ?_
  rw [den_call Tryd.func37 rfl]
  unfold inR
  by_cases h1 : 0 ≤ n <;> by_cases h2 : n ≤ 144001439 <;> simp [Tryd.f37, h1, h2]
@[simp] theorem p27 (n : Int) (m : AMem) (k : Nat) : pcall (den Tryd.prog cfg1 (k+1)) 27 [I n] m = some (B (inR n 0 144001439)) := by
  refine pcall_v ?_
  rw [den_call Tryd.func27 rfl]
  unfold inR
  by_cases h1 : 0 ≤ n <;> by_cases h2 : n ≤ 144001439 <;> simp [Tryd.f27, h1, h2]
@[simp] theorem p28 (n : Int) (m : AMem) (k : Nat) : pcall (den Tryd.prog cfg1 (k+1)) 28 [I n] m = some (B (inR n 0 144001439)) := by
  refine pcall_v ?_
  rw [den_call Tryd.func28 rfl]
  unfold inR
  by_cases h1 : 0 ≤ n <;> by_cases h2 : n ≤ 144001439 <;> simp [Tryd.f28, h1, h2]

/-- A measure. -/
structure Mea where
  x0 : AV
  x1 : AV
  k : Int
  x3 : AV
  x4 : AV
  x5 : AV
  x6 : AV
  x7 : AV
  x8 : AV
  f : Int
  u : Int
  w : Int
def Mea.av (m : Mea) : AV := .agg [m.x0, m.x1, I m.k, m.x3, m.x4, m.x5, m.x6, m.x7, m.x8, I m.f, I m.u, I m.w]
def Mea.dated (m : Mea) : Bool := inR m.f 0 100000 && inR m.w 0 400 && (decide (m.w ≤ 0) || decide (m.k = 1)) && (decide (m.u = -1) || (inR m.u 0 100000 && decide (m.f < m.u)))

set_option maxHeartbeats 4000000 in
@[simp] theorem p22 (a : Mea) (m : AMem) (k : Nat) : pcall (den Tryd.prog cfg1 (k+2)) 22 [a.av] m = some (B a.dated) := by
  refine pcall_v ?_
  rw [den_call Tryd.func22 rfl]
  unfold Mea.dated
  cases h1 : inR a.f 0 100000
  · simp [Tryd.f22, Mea.av, h1]
  cases h4 : inR a.w 0 400
  · by_cases h2 : a.w < 0
    · simp [Tryd.f22, Mea.av, h1, h2]
    · have h3 : 400 < a.w := by simp [inR] at h4; omega
      simp [Tryd.f22, Mea.av, h1, h2, h3]
  rw [inR_iff] at h4
  have h2 : ¬ a.w < 0 := by omega
  have h3 : ¬ 400 < a.w := by omega
  by_cases h5 : a.w ≤ 0
  · have h5' : ¬ 0 < a.w := by omega
    by_cases h6 : a.u = -1
    · simp [Tryd.f22, Mea.av, h1, h2, h3, h5, h5', h6]
    cases h7 : inR a.u 0 100000
    · simp [Tryd.f22, Mea.av, h1, h2, h3, h5, h5', h6, h7]
    · by_cases h8 : a.f < a.u <;> simp [Tryd.f22, Mea.av, h1, h2, h3, h5, h5', h6, h7, h8]
  have h5' : 0 < a.w := by omega
  by_cases h9 : a.k = 1
  · by_cases h6 : a.u = -1
    · simp [Tryd.f22, Mea.av, h1, h2, h3, h5, h5', h6, h9]
    cases h7 : inR a.u 0 100000
    · simp [Tryd.f22, Mea.av, h1, h2, h3, h5, h5', h6, h7, h9]
    · by_cases h8 : a.f < a.u <;> simp [Tryd.f22, Mea.av, h1, h2, h3, h5, h5', h6, h7, h8, h9]
  · simp [Tryd.f22, Mea.av, h1, h2, h3, h5, h5', h9]
end Go.Den
