/-
  The row of FrozenMatchesReference: the abstract interpreter's word joined to the statement.
-/
import Derived.Test.YtnnajbbmgponpaaRows
import Derived.WalkKit
import Derived.ProofKit
import Derived.OpenShut
import Derived.ShutString
import Derived.Test.YtnnajbbmgponpaaDenSh
import Derived.Test.YtnnajbbmgponpaaDenF27
namespace Go.Proofs.Ytnnajbbmgponpaa.frozenMatchesReference
open Go.ChangeShapes Go.WideShapes Go.ChangeAt Go.RowKit
open Go.ChangeMaps (open_string shut_string)
set_option linter.unusedVariables false

theorem own : ownKnob Try.prog.godebug = none := by kernel_rfl
theorem laid : laidOutB Try.prog = true := by kernel_rfl

set_option maxRecDepth 100000 in
theorem lifted (os : Os) (started : os.Started) (H : Type) (enc : TypeId × Value → H) :
    ReturnsInHanded {} Try.checked os 6 .any (Rows.frozenMatchesReferenceSpec.pre6 enc Try.prog Try.f6 Rows.frozenMatchesReferenceRow.domain false) (Rows.frozenMatchesReferenceSpec.post enc Try.prog Try.f6 false true false false) := by
  refine returnsInHanded_of_change (C := Try.checked) own started (by kernel_rfl) Try.func6
    (ChangeSpec.witness6 (enc := enc) (C := Try.checked) false ⟨#[], #[.int .i64 0, .int .i64 0, .int .i64 0, .int .i64 0, .slice none 0 0, .int .i64 0], []⟩ 8 (by kernel_rfl) (by kernel_rfl) (by kernel_rfl) (by kernel_rfl)) ?_
  intro W base args ds gs before hval0 hW hcnd _
  have hval : ∀ (j : Nat) t v, Try.f6.params[j]? = some t → args[j]? = some v → Value.okWide Try.prog W .any base t v := hval0
  have hW' := hW
  obtain ⟨p, q, hA0, hV, rfl, hfz, hnd⟩ := hW
  have hA : DataW.TrodAll enc Try.prog W 0 (fun _ => true) true Try.f6.params.toList args.toList ds p := hA0
  obtain ⟨rfl, rfl⟩ := trodVars_none hV
  rw [Try.params6] at hA hval
  have hlt : ∀ x ∈ p, x.block < W.heap.size := fun x hx => hW'.lt x (by simp [hx])
  have hback := fun W' (hg : Below W.heap.size W W') (sp : Nat → Bool) (hsp : ∀ x ∈ p, sp x.block = true) => Den.args_back laid hg (by
    intro t ht
    simp only [List.mem_cons, List.not_mem_nil, or_false] at ht
    rcases ht with rfl | rfl | rfl | rfl | rfl | rfl <;> exact ⟨by kernel_rfl, of_decide_eq_true (by kernel_rfl)⟩) hlt hsp hA
  obtain ⟨avs, hsh, hrep⟩ := Den.open_all (ts := [3, 3, 3, 3, 22, 3]) (by
    intro t ht
    simp only [List.mem_cons, List.not_mem_nil, or_false] at ht
    rcases ht with rfl | rfl | rfl | rfl | rfl | rfl <;> first | exact Den.plain3 | exact Den.plain4 | exact Den.plain22) (fun j t v h h' => hval j t v (by simpa using h) (by simpa using h')) hA
  obtain ⟨n0, b0, s0, rfl, t0, r0⟩ := hsh
  obtain ⟨n1, b1, s1, rfl, t1, r1⟩ := r0
  obtain ⟨n2, b2, s2, rfl, t2, r2⟩ := r1
  obtain ⟨n3, b3, s3, rfl, t3, r3⟩ := r2
  obtain ⟨n4, b4, s4, rfl, t4, r4⟩ := r3
  obtain ⟨n5, b5, s5, rfl, t5, r5⟩ := r4
  obtain rfl := r5
  obtain ⟨a0, rfl⟩ := Den.sh3 t0
  obtain ⟨a1, rfl⟩ := Den.sh3 t1
  obtain ⟨a2, rfl⟩ := Den.sh3 t2
  obtain ⟨a3, rfl⟩ := Den.sh3 t3
  obtain ⟨S, hS⟩ := Den.sh22 t4
  obtain ⟨a5, rfl⟩ := Den.sh3 t5
  obtain ⟨v0, vs0, d0, ds0, p0, q0, hargs, rfl, rfl, h0, u0⟩ := trodAll_cons hA
  obtain ⟨v1, vs1, d1, ds1, p1, q1, rfl, rfl, rfl, h1, u1⟩ := trodAll_cons u0
  obtain ⟨v2, vs2, d2, ds2, p2, q2, rfl, rfl, rfl, h2, u2⟩ := trodAll_cons u1
  obtain ⟨v3, vs3, d3, ds3, p3, q3, rfl, rfl, rfl, h3, u3⟩ := trodAll_cons u2
  obtain ⟨v4, vs4, d4, ds4, p4, q4, rfl, rfl, rfl, h4, u4⟩ := trodAll_cons u3
  obtain ⟨v5, vs5, d5, ds5, p5, q5, rfl, rfl, rfl, h5, u5⟩ := trodAll_cons u4
  obtain ⟨rfl, rfl, rfl⟩ := trodAll_nil u5
  obtain rfl : args = #[v0, v1, v2, v3, v4, v5] := by cases args; simp_all
  refine (Den.law_calls Den.prog_ok Den.prim_ok (Den.d6 990 (by omega) Den.head_ok a0 a1 a2 a3 a5 b4 S hS).choose_spec hrep).mono fun e W' ⟨he, hg⟩ => ?_
  subst he
  exact ⟨_, rfl, Den.post_of_below (pv := []) hW' (fun _ _ _ => (trodAll_cons_mk (shut_bool Try.underlying4 _) trodAll_mk0)) (fun sp hsp => hback W' hg sp (fun x hx => hsp x (by simpa using hx))) (fun _ _ => rfl) rfl
    hg (ok_one (by kernel_rfl) rfl (okWide_bool_mk Try.underlying4 _))⟩

theorem over : Rows.frozenMatchesReferenceRow.holds Try.pinned (OpenSpec.ofChange Rows.frozenMatchesReferenceSpec) :=
  OpenClaim.holds_of_wide 6 Try.f6 rfl rfl rfl rfl rfl rfl rfl ⟨rfl, rfl, rfl, rfl, rfl⟩ rfl rfl rfl rfl rfl (by kernel_rfl) Try.func6 (by kernel_rfl)
    (of_decide_eq_true (by kernel_rfl)) (by unfold Func.isWrapper; first | (rw [if_pos (by decide +kernel)]; kernel_rfl) | (rw [if_neg (by decide +kernel)]; exact ⟨rfl, rfl⟩))
    (fun os started H enc _ => lifted os started H enc)

/-- The statement. -/
theorem proved : Rows.FrozenMatchesReferenceSaid :=
  over
#print axioms proved
end Go.Proofs.Ytnnajbbmgponpaa.frozenMatchesReference
