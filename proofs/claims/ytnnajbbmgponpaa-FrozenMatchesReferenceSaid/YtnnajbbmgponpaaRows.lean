/-
  No cell of these rows narrows 'for every input' (looked for: loops, veiled, ifaces, maps, wideKeys, modest, calm, conditions, laid).
  DERIVED. THE GIVEN ROWS OF THIS SEAT. 6 by the template 'for every input the law returns true; each argument reads behind the call as it read before'; 0 by the template 'total and deterministic' (their statements: YtnnajbbmgponpaaTotals.lean).
  GIVEN WITH THE SEED: the statements are not yours to turn. If you find one false, say at which input.
  Laid BY PROGRAM, IN A SANDBOX (cutbox-rows.mjs): the forced cells as the released guide's own fill.sh prints them over the translation bb331f5aadd99ad2… (all of the seat's roots in one cut). By AI agents, Wed Nov 11 2026. No macro, syntax, notation, axiom, sorry.
-/
import Derived.Test.YtnnajbbmgponpaaChecked
import GoSem.Claim
import GoSem.ClaimJoined
import GoSem.ClaimMapViews
import Derived.JoinedTies
import Derived.KernelRfl
namespace Go.Proofs.Ytnnajbbmgponpaa
/- THE CELL 'sum', in the pinned program and in every row, IS THE sha256 OF THE DUMP (.gsa) THAT YtnnajbbmgponpaaProg.lean LOADS. Nothing in Lean hashes anything: it is a label: what it is worth is what the hold of that sum in a sandbox is worth. -/
noncomputable def Try.pinned : Pinned := { name := "ytnnajbbmgponpaa", sum := "bb331f5aadd99ad220eebe52f962c23c8a0e2120fe3c6ef6fc9a6221b70a93c6", checked := Try.checked }
namespace Rows
def none {H : Type} : Left H := { results := [], args := [] }

/-- 'customhouselaw38.FrozenDays': WHATEVER THE INPUT: true; the input reads as it did. -/
def frozenDaysSpec : ChangeSpec := { name := "frozenDays", fn := fun _ => fun
  | [d1, d2, d3, d4, d5, d6, d7] => { results := [.lit (.bool true)], args := [d1, d2, d3, d4, d5, d6, d7] }
  | _ => none }
def frozenDaysRow : OpenClaim := { program := "ytnnajbbmgponpaa", sum := "bb331f5aadd99ad220eebe52f962c23c8a0e2120fe3c6ef6fc9a6221b70a93c6", func := "customhouse/customhouselaw38.FrozenDays", spec := "frozenDays", unfollowed := true, recurses := true, apart := false }
def FrozenDaysSaid : Prop := frozenDaysRow.holds Try.pinned (OpenSpec.ofChange frozenDaysSpec)

/-- ITS FALSE NEIGHBOUR: 'it returns false'. Refute it at one input. -/
def frozenDaysWrong : ChangeSpec := { name := "frozenDays", fn := fun _ => fun
  | [d1, d2, d3, d4, d5, d6, d7] => { results := [.lit (.bool false)], args := [d1, d2, d3, d4, d5, d6, d7] }
  | _ => none }
def FrozenDaysWrongFalsely : Prop := frozenDaysRow.holds Try.pinned (OpenSpec.ofChange frozenDaysWrong)

/-- 'customhouselaw38.FrozenCorrected': WHATEVER THE INPUT: true; the input reads as it did. -/
def frozenCorrectedSpec : ChangeSpec := { name := "frozenCorrected", fn := fun _ => fun
  | [d1, d2, d3, d4, d5, d6, d7, d8] => { results := [.lit (.bool true)], args := [d1, d2, d3, d4, d5, d6, d7, d8] }
  | _ => none }
def frozenCorrectedRow : OpenClaim := { program := "ytnnajbbmgponpaa", sum := "bb331f5aadd99ad220eebe52f962c23c8a0e2120fe3c6ef6fc9a6221b70a93c6", func := "customhouse/customhouselaw38.FrozenCorrected", spec := "frozenCorrected", unfollowed := true, recurses := true, apart := false }
def FrozenCorrectedSaid : Prop := frozenCorrectedRow.holds Try.pinned (OpenSpec.ofChange frozenCorrectedSpec)

/-- ITS FALSE NEIGHBOUR: 'it returns false'. Refute it at one input. -/
def frozenCorrectedWrong : ChangeSpec := { name := "frozenCorrected", fn := fun _ => fun
  | [d1, d2, d3, d4, d5, d6, d7, d8] => { results := [.lit (.bool false)], args := [d1, d2, d3, d4, d5, d6, d7, d8] }
  | _ => none }
def FrozenCorrectedWrongFalsely : Prop := frozenCorrectedRow.holds Try.pinned (OpenSpec.ofChange frozenCorrectedWrong)

/-- 'customhouselaw38.FrozenTogether': WHATEVER THE INPUT: true; the input reads as it did. -/
def frozenTogetherSpec : ChangeSpec := { name := "frozenTogether", fn := fun _ => fun
  | [d1, d2, d3, d4, d5, d6, d7] => { results := [.lit (.bool true)], args := [d1, d2, d3, d4, d5, d6, d7] }
  | _ => none }
def frozenTogetherRow : OpenClaim := { program := "ytnnajbbmgponpaa", sum := "bb331f5aadd99ad220eebe52f962c23c8a0e2120fe3c6ef6fc9a6221b70a93c6", func := "customhouse/customhouselaw38.FrozenTogether", spec := "frozenTogether", unfollowed := true, recurses := true, apart := false }
def FrozenTogetherSaid : Prop := frozenTogetherRow.holds Try.pinned (OpenSpec.ofChange frozenTogetherSpec)

/-- ITS FALSE NEIGHBOUR: 'it returns false'. Refute it at one input. -/
def frozenTogetherWrong : ChangeSpec := { name := "frozenTogether", fn := fun _ => fun
  | [d1, d2, d3, d4, d5, d6, d7] => { results := [.lit (.bool false)], args := [d1, d2, d3, d4, d5, d6, d7] }
  | _ => none }
def FrozenTogetherWrongFalsely : Prop := frozenTogetherRow.holds Try.pinned (OpenSpec.ofChange frozenTogetherWrong)

/-- 'customhouselaw38.FrozenMatchesReference': WHATEVER THE INPUT: true; the input reads as it did. -/
def frozenMatchesReferenceSpec : ChangeSpec := { name := "frozenMatchesReference", fn := fun _ => fun
  | [d1, d2, d3, d4, d5, d6] => { results := [.lit (.bool true)], args := [d1, d2, d3, d4, d5, d6] }
  | _ => none }
def frozenMatchesReferenceRow : OpenClaim := { program := "ytnnajbbmgponpaa", sum := "bb331f5aadd99ad220eebe52f962c23c8a0e2120fe3c6ef6fc9a6221b70a93c6", func := "customhouse/customhouselaw38.FrozenMatchesReference", spec := "frozenMatchesReference", unfollowed := true, recurses := true, apart := false }
def FrozenMatchesReferenceSaid : Prop := frozenMatchesReferenceRow.holds Try.pinned (OpenSpec.ofChange frozenMatchesReferenceSpec)

/-- ITS FALSE NEIGHBOUR: 'it returns false'. Refute it at one input. -/
def frozenMatchesReferenceWrong : ChangeSpec := { name := "frozenMatchesReference", fn := fun _ => fun
  | [d1, d2, d3, d4, d5, d6] => { results := [.lit (.bool false)], args := [d1, d2, d3, d4, d5, d6] }
  | _ => none }
def FrozenMatchesReferenceWrongFalsely : Prop := frozenMatchesReferenceRow.holds Try.pinned (OpenSpec.ofChange frozenMatchesReferenceWrong)

/-- 'customhouselaw38.FrozenNil': WHATEVER THE INPUT: true; the input reads as it did. -/
def frozenNilSpec : ChangeSpec := { name := "frozenNil", fn := fun _ => fun
  | [d1, d2, d3, d4] => { results := [.lit (.bool true)], args := [d1, d2, d3, d4] }
  | _ => none }
def frozenNilRow : OpenClaim := { program := "ytnnajbbmgponpaa", sum := "bb331f5aadd99ad220eebe52f962c23c8a0e2120fe3c6ef6fc9a6221b70a93c6", func := "customhouse/customhouselaw38.FrozenNil", spec := "frozenNil", unfollowed := true, recurses := true, apart := false }
def FrozenNilSaid : Prop := frozenNilRow.holds Try.pinned (OpenSpec.ofChange frozenNilSpec)

/-- ITS FALSE NEIGHBOUR: 'it returns false'. Refute it at one input. -/
def frozenNilWrong : ChangeSpec := { name := "frozenNil", fn := fun _ => fun
  | [d1, d2, d3, d4] => { results := [.lit (.bool false)], args := [d1, d2, d3, d4] }
  | _ => none }
def FrozenNilWrongFalsely : Prop := frozenNilRow.holds Try.pinned (OpenSpec.ofChange frozenNilWrong)

/-- 'customhouselaw38.FrozenKeeps': WHATEVER THE INPUT: true; the input reads as it did. -/
def frozenKeepsSpec : ChangeSpec := { name := "frozenKeeps", fn := fun _ => fun
  | [d1, d2, d3, d4, d5, d6] => { results := [.lit (.bool true)], args := [d1, d2, d3, d4, d5, d6] }
  | _ => none }
def frozenKeepsRow : OpenClaim := { program := "ytnnajbbmgponpaa", sum := "bb331f5aadd99ad220eebe52f962c23c8a0e2120fe3c6ef6fc9a6221b70a93c6", func := "customhouse/customhouselaw38.FrozenKeeps", spec := "frozenKeeps", unfollowed := true, recurses := true, apart := false }
def FrozenKeepsSaid : Prop := frozenKeepsRow.holds Try.pinned (OpenSpec.ofChange frozenKeepsSpec)

/-- ITS FALSE NEIGHBOUR: 'it returns false'. Refute it at one input. -/
def frozenKeepsWrong : ChangeSpec := { name := "frozenKeeps", fn := fun _ => fun
  | [d1, d2, d3, d4, d5, d6] => { results := [.lit (.bool false)], args := [d1, d2, d3, d4, d5, d6] }
  | _ => none }
def FrozenKeepsWrongFalsely : Prop := frozenKeepsRow.holds Try.pinned (OpenSpec.ofChange frozenKeepsWrong)

/- THE SECOND FORM. 'bulk': how many values and letters a reading holds, each counted each time it is reached (what is shared counts as often as it is met; a slice's spare places count too). A statement '..UptoSaid' is the law's where the arguments, and the package variables that the reading takes, are together of bulk at most 1048576: NARROWER than '..Said'. Prove '..Said' where nothing that the law and all that it calls make is longer than what came in: it says more and counts as full. Else prove '..UptoSaid'. A law counts once. -/
mutual
def uptoBulk {H : Type} : DataW H → Nat
  | .lit (.string bytes) => bytes.length + 1
  | .lit _ => 1
  | .nil => 1
  | .ptr d => uptoBulk d + 1
  | .slice elems spare => uptoBulkAll elems + uptoBulkAll spare + 1
  | .agg parts => uptoBulkAll parts + 1
  | .iface _ d => uptoBulk d + 1
  | .map entries => uptoBulkEntries entries + 1
  | .held _ => 1
def uptoBulkAll {H : Type} : List (DataW H) → Nat
  | [] => 0
  | d :: r => uptoBulk d + uptoBulkAll r
def uptoBulkEntries {H : Type} : List (Lit × DataW H) → Nat
  | [] => 0
  | x :: r => uptoBulkEntry x + uptoBulkEntries r
def uptoBulkEntry {H : Type} : Lit × DataW H → Nat
  | (.string bytes, d) => bytes.length + uptoBulk d + 1
  | (_, d) => uptoBulk d + 1
 end
def uptoSmall : (H : Type) → List (DataW H) → Bool := fun _ ds => decide (uptoBulkAll ds ≤ 1048576)
def OpenSpec.upto (s : _root_.Go.ChangeSpec) : _root_.Go.OpenSpec := { _root_.Go.OpenSpec.ofChange s with cond := some uptoSmall }

/-- 'customhouselaw38.FrozenDays', WHERE WHAT IT READS IS OF BULK AT MOST 1048576: true; the input reads as it did. -/
def frozenDaysUptoRow : OpenClaim := { program := "ytnnajbbmgponpaa", sum := "bb331f5aadd99ad220eebe52f962c23c8a0e2120fe3c6ef6fc9a6221b70a93c6", func := "customhouse/customhouselaw38.FrozenDays", spec := "frozenDays", unfollowed := true, recurses := true, apart := false, narrowed := true }
def FrozenDaysUptoSaid : Prop := frozenDaysUptoRow.holds Try.pinned (OpenSpec.upto frozenDaysSpec)

/-- 'customhouselaw38.FrozenCorrected', WHERE WHAT IT READS IS OF BULK AT MOST 1048576: true; the input reads as it did. -/
def frozenCorrectedUptoRow : OpenClaim := { program := "ytnnajbbmgponpaa", sum := "bb331f5aadd99ad220eebe52f962c23c8a0e2120fe3c6ef6fc9a6221b70a93c6", func := "customhouse/customhouselaw38.FrozenCorrected", spec := "frozenCorrected", unfollowed := true, recurses := true, apart := false, narrowed := true }
def FrozenCorrectedUptoSaid : Prop := frozenCorrectedUptoRow.holds Try.pinned (OpenSpec.upto frozenCorrectedSpec)

/-- 'customhouselaw38.FrozenTogether', WHERE WHAT IT READS IS OF BULK AT MOST 1048576: true; the input reads as it did. -/
def frozenTogetherUptoRow : OpenClaim := { program := "ytnnajbbmgponpaa", sum := "bb331f5aadd99ad220eebe52f962c23c8a0e2120fe3c6ef6fc9a6221b70a93c6", func := "customhouse/customhouselaw38.FrozenTogether", spec := "frozenTogether", unfollowed := true, recurses := true, apart := false, narrowed := true }
def FrozenTogetherUptoSaid : Prop := frozenTogetherUptoRow.holds Try.pinned (OpenSpec.upto frozenTogetherSpec)

/-- 'customhouselaw38.FrozenMatchesReference', WHERE WHAT IT READS IS OF BULK AT MOST 1048576: true; the input reads as it did. -/
def frozenMatchesReferenceUptoRow : OpenClaim := { program := "ytnnajbbmgponpaa", sum := "bb331f5aadd99ad220eebe52f962c23c8a0e2120fe3c6ef6fc9a6221b70a93c6", func := "customhouse/customhouselaw38.FrozenMatchesReference", spec := "frozenMatchesReference", unfollowed := true, recurses := true, apart := false, narrowed := true }
def FrozenMatchesReferenceUptoSaid : Prop := frozenMatchesReferenceUptoRow.holds Try.pinned (OpenSpec.upto frozenMatchesReferenceSpec)

/-- 'customhouselaw38.FrozenNil', WHERE WHAT IT READS IS OF BULK AT MOST 1048576: true; the input reads as it did. -/
def frozenNilUptoRow : OpenClaim := { program := "ytnnajbbmgponpaa", sum := "bb331f5aadd99ad220eebe52f962c23c8a0e2120fe3c6ef6fc9a6221b70a93c6", func := "customhouse/customhouselaw38.FrozenNil", spec := "frozenNil", unfollowed := true, recurses := true, apart := false, narrowed := true }
def FrozenNilUptoSaid : Prop := frozenNilUptoRow.holds Try.pinned (OpenSpec.upto frozenNilSpec)

/-- 'customhouselaw38.FrozenKeeps', WHERE WHAT IT READS IS OF BULK AT MOST 1048576: true; the input reads as it did. -/
def frozenKeepsUptoRow : OpenClaim := { program := "ytnnajbbmgponpaa", sum := "bb331f5aadd99ad220eebe52f962c23c8a0e2120fe3c6ef6fc9a6221b70a93c6", func := "customhouse/customhouselaw38.FrozenKeeps", spec := "frozenKeeps", unfollowed := true, recurses := true, apart := false, narrowed := true }
def FrozenKeepsUptoSaid : Prop := frozenKeepsUptoRow.holds Try.pinned (OpenSpec.upto frozenKeepsSpec)

end Rows
end Go.Proofs.Ytnnajbbmgponpaa
