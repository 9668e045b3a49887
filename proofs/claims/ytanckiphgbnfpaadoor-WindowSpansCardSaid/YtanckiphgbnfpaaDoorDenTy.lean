/-
  What the abstract interpreter asks of the program's types: an equation a question, printed by a program. Conditions: none.
-/
import Derived.Test.YtanckiphgbnfpaaDoorDenSym
import Derived.Test.YtanckiphgbnfpaaDoorProg
import Derived.KernelRfl
namespace Go.Den
open Go.Proofs
@[simp] theorem ty_size3 : sizeA Tryd.prog 3 = some (1) := by kernel_rfl
@[simp] theorem ty_size4 : sizeA Tryd.prog 4 = some (1) := by kernel_rfl
@[simp] theorem ty_size9 : sizeA Tryd.prog 9 = some (1) := by kernel_rfl
@[simp] theorem ty_size22 : sizeA Tryd.prog 22 = some (1) := by kernel_rfl
@[simp] theorem ty_size24 : sizeA Tryd.prog 24 = some (5) := by kernel_rfl
@[simp] theorem ty_size26 : sizeA Tryd.prog 26 = some (12) := by kernel_rfl
@[simp] theorem ty_size27 : sizeA Tryd.prog 27 = some (1) := by kernel_rfl
@[simp] theorem ty_size29 : sizeA Tryd.prog 29 = some (1) := by kernel_rfl
@[simp] theorem ty_size31 : sizeA Tryd.prog 31 = some (1) := by kernel_rfl
@[simp] theorem ty_size50 : sizeA Tryd.prog 50 = some (2) := by kernel_rfl
@[simp] theorem ty_size66 : sizeA Tryd.prog 66 = some (1) := by kernel_rfl
@[simp] theorem ty_size70 : sizeA Tryd.prog 70 = some (3) := by kernel_rfl
@[simp] theorem ty_zero3 : zeroA Tryd.prog 3 = some (AV.v (Value.int IntKind.i64 (0))) := by kernel_rfl
@[simp] theorem ty_zero4 : zeroA Tryd.prog 4 = some (AV.v (Value.bool false)) := by kernel_rfl
@[simp] theorem ty_zero9 : zeroA Tryd.prog 9 = some (AV.v (Value.string ⟨#[]⟩)) := by kernel_rfl
@[simp] theorem ty_zero22 : zeroA Tryd.prog 22 = some (AV.v (Value.slice none 0 0)) := by kernel_rfl
@[simp] theorem ty_zero24 : zeroA Tryd.prog 24 = some (AV.agg [AV.v (Value.int IntKind.i64 (0)), AV.v (Value.string ⟨#[]⟩), AV.v (Value.int IntKind.i64 (0)), AV.v (Value.int IntKind.i64 (0)), AV.v (Value.slice none 0 0)]) := by kernel_rfl
@[simp] theorem ty_zero26 : zeroA Tryd.prog 26 = some (AV.agg [AV.v (Value.string ⟨#[]⟩), AV.v (Value.string ⟨#[]⟩), AV.v (Value.int IntKind.i64 (0)), AV.v (Value.string ⟨#[]⟩), AV.v (Value.int IntKind.i64 (0)), AV.v (Value.string ⟨#[]⟩), AV.v (Value.int IntKind.i64 (0)), AV.v (Value.int IntKind.i64 (0)), AV.v (Value.slice none 0 0), AV.v (Value.int IntKind.i64 (0)), AV.v (Value.int IntKind.i64 (0)), AV.v (Value.int IntKind.i64 (0))]) := by kernel_rfl
@[simp] theorem ty_zero27 : zeroA Tryd.prog 27 = some (AV.v (Value.slice none 0 0)) := by kernel_rfl
@[simp] theorem ty_zero29 : zeroA Tryd.prog 29 = some (AV.agg [AV.v (Value.slice none 0 0)]) := by kernel_rfl
@[simp] theorem ty_zero31 : zeroA Tryd.prog 31 = some (AV.v (Value.int IntKind.i64 (0))) := by kernel_rfl
@[simp] theorem ty_zero50 : zeroA Tryd.prog 50 = some (AV.agg [AV.v (Value.int IntKind.i64 (0)), AV.v (Value.int IntKind.i64 (0))]) := by kernel_rfl
@[simp] theorem ty_zero66 : zeroA Tryd.prog 66 = some (AV.v Value.nilFunc) := by kernel_rfl
@[simp] theorem ty_zero70 : zeroA Tryd.prog 70 = some (AV.agg [AV.v (Value.int IntKind.i64 (0)), AV.v (Value.int IntKind.i64 (0)), AV.v (Value.int IntKind.i64 (0))]) := by kernel_rfl
@[simp] theorem ty_agg3 : aggOf Tryd.prog 3 = some false := by kernel_rfl
@[simp] theorem ty_agg4 : aggOf Tryd.prog 4 = some false := by kernel_rfl
@[simp] theorem ty_agg9 : aggOf Tryd.prog 9 = some false := by kernel_rfl
@[simp] theorem ty_agg22 : aggOf Tryd.prog 22 = some false := by kernel_rfl
@[simp] theorem ty_agg24 : aggOf Tryd.prog 24 = some true := by kernel_rfl
@[simp] theorem ty_agg26 : aggOf Tryd.prog 26 = some true := by kernel_rfl
@[simp] theorem ty_agg27 : aggOf Tryd.prog 27 = some false := by kernel_rfl
@[simp] theorem ty_agg29 : aggOf Tryd.prog 29 = some true := by kernel_rfl
@[simp] theorem ty_agg31 : aggOf Tryd.prog 31 = some false := by kernel_rfl
@[simp] theorem ty_agg50 : aggOf Tryd.prog 50 = some true := by kernel_rfl
@[simp] theorem ty_agg66 : aggOf Tryd.prog 66 = some false := by kernel_rfl
@[simp] theorem ty_agg70 : aggOf Tryd.prog 70 = some true := by kernel_rfl
@[simp] theorem ty_bytes3 : Program.bytesOf Tryd.prog 3 = 8 := by kernel_rfl
@[simp] theorem ty_bytes4 : Program.bytesOf Tryd.prog 4 = 1 := by kernel_rfl
@[simp] theorem ty_bytes9 : Program.bytesOf Tryd.prog 9 = 16 := by kernel_rfl
@[simp] theorem ty_bytes22 : Program.bytesOf Tryd.prog 22 = 24 := by kernel_rfl
@[simp] theorem ty_bytes24 : Program.bytesOf Tryd.prog 24 = 64 := by kernel_rfl
@[simp] theorem ty_bytes26 : Program.bytesOf Tryd.prog 26 = 144 := by kernel_rfl
@[simp] theorem ty_bytes27 : Program.bytesOf Tryd.prog 27 = 24 := by kernel_rfl
@[simp] theorem ty_bytes29 : Program.bytesOf Tryd.prog 29 = 24 := by kernel_rfl
@[simp] theorem ty_bytes31 : Program.bytesOf Tryd.prog 31 = 8 := by kernel_rfl
@[simp] theorem ty_bytes50 : Program.bytesOf Tryd.prog 50 = 16 := by kernel_rfl
@[simp] theorem ty_bytes66 : Program.bytesOf Tryd.prog 66 = 8 := by kernel_rfl
@[simp] theorem ty_bytes70 : Program.bytesOf Tryd.prog 70 = 24 := by kernel_rfl
attribute [simp] Tryd.underlying3
attribute [simp] Tryd.underlying4
attribute [simp] Tryd.underlying9
attribute [simp] Tryd.underlying22
attribute [simp] Tryd.underlying24
attribute [simp] Tryd.underlying26
attribute [simp] Tryd.underlying27
attribute [simp] Tryd.underlying29
attribute [simp] Tryd.underlying31
attribute [simp] Tryd.underlying50
attribute [simp] Tryd.underlying66
attribute [simp] Tryd.underlying70
end Go.Den
