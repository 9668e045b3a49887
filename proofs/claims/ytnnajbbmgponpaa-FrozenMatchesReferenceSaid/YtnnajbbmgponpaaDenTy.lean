/-
  What the abstract interpreter asks of the program's types: an equation a question, printed by a program. Conditions: none.
-/
import Derived.Test.YtnnajbbmgponpaaDenSym
import Derived.Test.YtnnajbbmgponpaaProg
import Derived.KernelRfl
namespace Go.Den
open Go.Proofs
@[simp] theorem ty_size3 : sizeA Try.prog 3 = some (1) := by kernel_rfl
@[simp] theorem ty_size4 : sizeA Try.prog 4 = some (1) := by kernel_rfl
@[simp] theorem ty_size22 : sizeA Try.prog 22 = some (1) := by kernel_rfl
@[simp] theorem ty_size24 : sizeA Try.prog 24 = some (1) := by kernel_rfl
@[simp] theorem ty_size25 : sizeA Try.prog 25 = some (1) := by kernel_rfl
@[simp] theorem ty_size30 : sizeA Try.prog 30 = some (4) := by kernel_rfl
@[simp] theorem ty_size38 : sizeA Try.prog 38 = some (1) := by kernel_rfl
@[simp] theorem ty_size39 : sizeA Try.prog 39 = some (1) := by kernel_rfl
@[simp] theorem ty_size48 : sizeA Try.prog 48 = some (1) := by kernel_rfl
@[simp] theorem ty_size53 : sizeA Try.prog 53 = some (2) := by kernel_rfl
@[simp] theorem ty_size55 : sizeA Try.prog 55 = some (2) := by kernel_rfl
@[simp] theorem ty_size56 : sizeA Try.prog 56 = some (1) := by kernel_rfl
@[simp] theorem ty_size58 : sizeA Try.prog 58 = some (4) := by kernel_rfl
@[simp] theorem ty_size60 : sizeA Try.prog 60 = some (1) := by kernel_rfl
@[simp] theorem ty_size62 : sizeA Try.prog 62 = some (4) := by kernel_rfl
@[simp] theorem ty_size64 : sizeA Try.prog 64 = some (1) := by kernel_rfl
@[simp] theorem ty_size66 : sizeA Try.prog 66 = some (2) := by kernel_rfl
@[simp] theorem ty_size67 : sizeA Try.prog 67 = some (2) := by kernel_rfl
@[simp] theorem ty_size68 : sizeA Try.prog 68 = some (1) := by kernel_rfl
@[simp] theorem ty_size70 : sizeA Try.prog 70 = some (4) := by kernel_rfl
@[simp] theorem ty_size72 : sizeA Try.prog 72 = some (1) := by kernel_rfl
@[simp] theorem ty_size73 : sizeA Try.prog 73 = some (5) := by kernel_rfl
@[simp] theorem ty_zero3 : zeroA Try.prog 3 = some (AV.v (Value.int IntKind.i64 (0))) := by kernel_rfl
@[simp] theorem ty_zero4 : zeroA Try.prog 4 = some (AV.v (Value.bool false)) := by kernel_rfl
@[simp] theorem ty_zero22 : zeroA Try.prog 22 = some (AV.v (Value.slice none 0 0)) := by kernel_rfl
@[simp] theorem ty_zero24 : zeroA Try.prog 24 = some (AV.v (Value.pointer none)) := by kernel_rfl
@[simp] theorem ty_zero25 : zeroA Try.prog 25 = some (AV.v (Value.int IntKind.i64 (0))) := by kernel_rfl
@[simp] theorem ty_zero30 : zeroA Try.prog 30 = some (AV.agg [AV.v (Value.int IntKind.i64 (0)), AV.v (Value.int IntKind.i64 (0)), AV.v (Value.int IntKind.i64 (0)), AV.v (Value.bool false)]) := by kernel_rfl
@[simp] theorem ty_zero38 : zeroA Try.prog 38 = some (AV.v Value.nilFunc) := by kernel_rfl
@[simp] theorem ty_zero39 : zeroA Try.prog 39 = some (AV.v (Value.pointer none)) := by kernel_rfl
@[simp] theorem ty_zero48 : zeroA Try.prog 48 = some (AV.v (Value.slice none 0 0)) := by kernel_rfl
@[simp] theorem ty_zero53 : zeroA Try.prog 53 = some (AV.agg [AV.v (Value.int IntKind.i64 (0)), AV.v (Value.int IntKind.i64 (0))]) := by kernel_rfl
@[simp] theorem ty_zero55 : zeroA Try.prog 55 = some (AV.agg [AV.v (Value.int IntKind.i64 (0)), AV.v (Value.int IntKind.i64 (0))]) := by kernel_rfl
@[simp] theorem ty_zero56 : zeroA Try.prog 56 = some (AV.v (Value.slice none 0 0)) := by kernel_rfl
@[simp] theorem ty_zero58 : zeroA Try.prog 58 = some (AV.agg [AV.v (Value.int IntKind.i64 (0)), AV.v (Value.int IntKind.i64 (0)), AV.v (Value.slice none 0 0), AV.v (Value.bool false)]) := by kernel_rfl
@[simp] theorem ty_zero60 : zeroA Try.prog 60 = some (AV.v Value.nilFunc) := by kernel_rfl
@[simp] theorem ty_zero62 : zeroA Try.prog 62 = some (AV.agg [AV.v (Value.pointer none), AV.v (Value.int IntKind.i64 (0)), AV.v (Value.int IntKind.i64 (0)), AV.v (Value.bool false)]) := by kernel_rfl
@[simp] theorem ty_zero64 : zeroA Try.prog 64 = some (AV.v Value.nilFunc) := by kernel_rfl
@[simp] theorem ty_zero66 : zeroA Try.prog 66 = some (AV.agg [AV.v (Value.int IntKind.i64 (0)), AV.v (Value.int IntKind.i64 (0))]) := by kernel_rfl
@[simp] theorem ty_zero67 : zeroA Try.prog 67 = some (AV.agg [AV.v (Value.int IntKind.i64 (0)), AV.v (Value.int IntKind.i64 (0))]) := by kernel_rfl
@[simp] theorem ty_zero68 : zeroA Try.prog 68 = some (AV.v (Value.slice none 0 0)) := by kernel_rfl
@[simp] theorem ty_zero70 : zeroA Try.prog 70 = some (AV.agg [AV.v (Value.int IntKind.i64 (0)), AV.v (Value.int IntKind.i64 (0)), AV.v (Value.slice none 0 0), AV.v (Value.bool false)]) := by kernel_rfl
@[simp] theorem ty_zero72 : zeroA Try.prog 72 = some (AV.v (Value.slice none 0 0)) := by kernel_rfl
@[simp] theorem ty_zero73 : zeroA Try.prog 73 = some (AV.agg [AV.v Value.nilFunc, AV.v Value.nilFunc, AV.v Value.nilFunc, AV.v Value.nilFunc, AV.v Value.nilFunc]) := by kernel_rfl
@[simp] theorem ty_agg3 : aggOf Try.prog 3 = some false := by kernel_rfl
@[simp] theorem ty_agg4 : aggOf Try.prog 4 = some false := by kernel_rfl
@[simp] theorem ty_agg22 : aggOf Try.prog 22 = some false := by kernel_rfl
@[simp] theorem ty_agg24 : aggOf Try.prog 24 = some false := by kernel_rfl
@[simp] theorem ty_agg25 : aggOf Try.prog 25 = some false := by kernel_rfl
@[simp] theorem ty_agg30 : aggOf Try.prog 30 = some true := by kernel_rfl
@[simp] theorem ty_agg38 : aggOf Try.prog 38 = some false := by kernel_rfl
@[simp] theorem ty_agg39 : aggOf Try.prog 39 = some false := by kernel_rfl
@[simp] theorem ty_agg48 : aggOf Try.prog 48 = some false := by kernel_rfl
@[simp] theorem ty_agg53 : aggOf Try.prog 53 = some true := by kernel_rfl
@[simp] theorem ty_agg55 : aggOf Try.prog 55 = some true := by kernel_rfl
@[simp] theorem ty_agg56 : aggOf Try.prog 56 = some false := by kernel_rfl
@[simp] theorem ty_agg58 : aggOf Try.prog 58 = some true := by kernel_rfl
@[simp] theorem ty_agg60 : aggOf Try.prog 60 = some false := by kernel_rfl
@[simp] theorem ty_agg62 : aggOf Try.prog 62 = some true := by kernel_rfl
@[simp] theorem ty_agg64 : aggOf Try.prog 64 = some false := by kernel_rfl
@[simp] theorem ty_agg66 : aggOf Try.prog 66 = some true := by kernel_rfl
@[simp] theorem ty_agg67 : aggOf Try.prog 67 = some true := by kernel_rfl
@[simp] theorem ty_agg68 : aggOf Try.prog 68 = some false := by kernel_rfl
@[simp] theorem ty_agg70 : aggOf Try.prog 70 = some true := by kernel_rfl
@[simp] theorem ty_agg72 : aggOf Try.prog 72 = some false := by kernel_rfl
@[simp] theorem ty_agg73 : aggOf Try.prog 73 = some true := by kernel_rfl
@[simp] theorem ty_bytes3 : Program.bytesOf Try.prog 3 = 8 := by kernel_rfl
@[simp] theorem ty_bytes4 : Program.bytesOf Try.prog 4 = 1 := by kernel_rfl
@[simp] theorem ty_bytes22 : Program.bytesOf Try.prog 22 = 24 := by kernel_rfl
@[simp] theorem ty_bytes24 : Program.bytesOf Try.prog 24 = 8 := by kernel_rfl
@[simp] theorem ty_bytes25 : Program.bytesOf Try.prog 25 = 8 := by kernel_rfl
@[simp] theorem ty_bytes30 : Program.bytesOf Try.prog 30 = 32 := by kernel_rfl
@[simp] theorem ty_bytes38 : Program.bytesOf Try.prog 38 = 8 := by kernel_rfl
@[simp] theorem ty_bytes39 : Program.bytesOf Try.prog 39 = 8 := by kernel_rfl
@[simp] theorem ty_bytes48 : Program.bytesOf Try.prog 48 = 24 := by kernel_rfl
@[simp] theorem ty_bytes53 : Program.bytesOf Try.prog 53 = 16 := by kernel_rfl
@[simp] theorem ty_bytes55 : Program.bytesOf Try.prog 55 = 16 := by kernel_rfl
@[simp] theorem ty_bytes56 : Program.bytesOf Try.prog 56 = 24 := by kernel_rfl
@[simp] theorem ty_bytes58 : Program.bytesOf Try.prog 58 = 48 := by kernel_rfl
@[simp] theorem ty_bytes60 : Program.bytesOf Try.prog 60 = 8 := by kernel_rfl
@[simp] theorem ty_bytes62 : Program.bytesOf Try.prog 62 = 32 := by kernel_rfl
@[simp] theorem ty_bytes64 : Program.bytesOf Try.prog 64 = 8 := by kernel_rfl
@[simp] theorem ty_bytes66 : Program.bytesOf Try.prog 66 = 16 := by kernel_rfl
@[simp] theorem ty_bytes67 : Program.bytesOf Try.prog 67 = 16 := by kernel_rfl
@[simp] theorem ty_bytes68 : Program.bytesOf Try.prog 68 = 24 := by kernel_rfl
@[simp] theorem ty_bytes70 : Program.bytesOf Try.prog 70 = 48 := by kernel_rfl
@[simp] theorem ty_bytes72 : Program.bytesOf Try.prog 72 = 24 := by kernel_rfl
@[simp] theorem ty_bytes73 : Program.bytesOf Try.prog 73 = 40 := by kernel_rfl
attribute [simp] Try.underlying3
attribute [simp] Try.underlying4
attribute [simp] Try.underlying22
attribute [simp] Try.underlying24
attribute [simp] Try.underlying25
attribute [simp] Try.underlying30
attribute [simp] Try.underlying38
attribute [simp] Try.underlying39
attribute [simp] Try.underlying48
attribute [simp] Try.underlying53
attribute [simp] Try.underlying55
attribute [simp] Try.underlying56
attribute [simp] Try.underlying58
attribute [simp] Try.underlying60
attribute [simp] Try.underlying62
attribute [simp] Try.underlying64
attribute [simp] Try.underlying66
attribute [simp] Try.underlying67
attribute [simp] Try.underlying68
attribute [simp] Try.underlying70
attribute [simp] Try.underlying72
attribute [simp] Try.underlying73
end Go.Den
