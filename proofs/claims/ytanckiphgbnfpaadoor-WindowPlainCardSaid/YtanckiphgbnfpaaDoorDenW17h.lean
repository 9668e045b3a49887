/-
  The examples, behind one block. Conditions: as the statement says.
-/
import Derived.Test.YtanckiphgbnfpaaDoorDenW11
namespace Go.Den
open Go.Proofs
set_option maxRecDepth 1000000 in
theorem head_ok1 (b0 : ABlk) (ro : Nat) : pcall (den Tryd.prog cfg1 (990 + 10)) 10 [] ⟨[b0], 0, [], ro⟩ = some (B true) := by kernel_rfl
end Go.Den
