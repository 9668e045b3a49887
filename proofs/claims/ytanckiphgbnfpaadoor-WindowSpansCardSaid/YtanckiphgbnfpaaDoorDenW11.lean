/-
  The law that the window matches the reference. Conditions: as each statement says.
-/
import Derived.Test.YtanckiphgbnfpaaDoorDenW10
import Derived.Test.YtanckiphgbnfpaaDoorChecked
namespace Go.Den
open Go.Proofs
set_option linter.unusedSimpArgs false

/-- The memory in which a law's function begins. -/
abbrev M0 : AMem := ⟨[], 0, [], 0⟩

set_option maxRecDepth 1000000 in
theorem prog_ok : progOk Tryd.prog = true := by kernel_rfl
set_option maxRecDepth 1000000 in
theorem head_ok (b0 b1 : ABlk) (ro : Nat) : pcall (den Tryd.prog cfg1 (990 + 10)) 10 [] ⟨[b0, b1], 0, [], ro⟩ = some (B true) := by kernel_rfl
end Go.Den
