/-
  The reference's first instant of a day. Conditions: as each statement says.
-/
import Derived.Test.YtanckiphgbnfpaaDoorDenW6
namespace Go.Den
open Go.Proofs
set_option linter.unusedSimpArgs false
set_option linter.unusedVariables false

def End41 (x : Option (AExit × St)) (r : Option Int) (M : AMem) : Prop :=
  ∃ s', x = some (if r.isSome then .ret else .exit 0, ⟨s', M, []⟩) ∧ slen s' = 78 ∧ ∀ t, r = some t → s'[6]? = some (I t) ∧ s'[7]? = some (I 0)

set_option maxHeartbeats 8000000 in
theorem loop41 (Z : List (Int × Int)) (c : Cap) (M : AMem) (want : Int) (bx k : Nat) (hZ : Z.length ≤ 1000000) (hM : M.blks[bx]? = some (.arr [.agg [.sl 2 (Z.map shv) c]] 1)) : ∀ (R : List (Int × Int)) (n i : Nat) (s : List AV), slen s = 78 → s[3]? = some (.ref bx 0 0) → s[8]? = some (I want) → s[9]? = some (I i) → R.length < n → Z.drop i = R →
    End41 (loopN [] (exec Tryd.prog cfg1 (den Tryd.prog cfg1 k) k 41 none [] (loopOf Tryd.f41 0)) n ⟨s, M, []⟩) (walkS (fI want) none R) M := by
  intro R
  induction R with
  | nil =>
    intro n i s hs h3 h8 h9 hn hR
    obtain ⟨n, rfl⟩ : ∃ n', n = n' + 1 := ⟨n - 1, by omega⟩
    have hi : ¬ ((i : Int) < Z.length) := by
      have := congrArg List.length hR
      simp at this
      omega
    simp -implicitDefEqProofs [loopOf, loopsOf, codeOf, Tryd.f41, hi, h3, h8, h9, hM, hs, walkS]
    exact ⟨_, rfl, by simp [hs], by simp⟩
  | cons p R ih =>
    intro n i s hs h3 h8 h9 hn hR
    obtain ⟨n, rfl⟩ : ∃ n', n = n' + 1 := ⟨n - 1, by simp at hn; omega⟩
    have hi : i < Z.length := by
      have := congrArg List.length hR
      simp at this
      omega
    have hi' : (i : Int) < Z.length := by omega
    have hp : Z[i]? = some p := by
      have := congrArg (fun l => l[0]?) hR
      simpa using this
    have hw : IntKind.i64.wrap ((i : Int) + 1) = ((i + 1 : Nat) : Int) := by rw [wrap_fit (by omega) (by omega)]; rfl
    have hw' : IntKind.i64.wrap ((i : Int) + 1) = (i : Int) + 1 := by rw [hw]; simp
    have htn : ((i : Int) + 1).toNat = i + 1 := by omega
    have h0i : (0 : Int) ≤ (i : Int) + 1 := by omega
    obtain ⟨a, o⟩ := p
    have nxt : ∀ s1, slen s1 = 78 → s1[3]? = some (.ref bx 0 0) → s1[8]? = some (I want) → s1[9]? = some (I ((i : Int) + 1)) → End41 (loopN [] (exec Tryd.prog cfg1 (den Tryd.prog cfg1 k) k 41 none [] (loopOf Tryd.f41 0)) n ⟨s1, M, []⟩) (walkS (fI want) none R) M := fun s1 g1 g2 g3 g4 => ih n (i + 1) s1 g1 g2 g3 (by simpa using g4) (by simp at hn; omega) (by rw [← List.drop_drop, hR]; rfl)
    simp -implicitDefEqProofs [-loopN_succ, loopOf, loopsOf, codeOf, Tryd.f41] at nxt
    have body : ∀ (e : Int) (R' : List (Int × Int)), endOfS R' = e → True := fun _ _ _ => trivial
    by_cases c1 : a < w64 (want - o)
    · have c1' : ¬ w64 (want - o) < a := by omega
      cases R with
      | nil =>
        have d1 : ¬ ((i : Int) + 1 < Z.length) := by
          have := congrArg List.length hR
          simp at this
          omega
        by_cases c2 : w64 (want - o) ≤ 144001439
        · simp -implicitDefEqProofs [loopOf, loopsOf, codeOf, Tryd.f41, hi', h3, h8, h9, hM, hs, hp, shv, hw', d1, c1, c1', c2, walkS, fI, endOfS]
          exact ⟨_, rfl, by simp [hs], by intro t ht; cases ht; simp [hs]⟩
        · simp -implicitDefEqProofs [loopOf, loopsOf, codeOf, Tryd.f41, hi', h3, h8, h9, hM, hs, hp, shv, hw', d1, c1, c1', c2, walkS, fI, endOfS]
          exact nxt _ (by simp [hs]) (by simp [h3]) (by simp [h8]) (by simp [hs])
      | cons q R =>
        obtain ⟨a', o'⟩ := q
        have hq : Z[i + 1]? = some (a', o') := by
          have := congrArg (fun l => l[1]?) hR
          simpa using this
        have d1 : (i : Int) + 1 < Z.length := by
          have := (List.getElem?_eq_some_iff.1 hq).1
          omega
        by_cases c2 : w64 (want - o) ≤ w64 (a' - 1)
        · rw [show walkS (fI want) none ((a, o) :: (a', o') :: R) = some (w64 (want - o)) by simp [walkS, fI, endOfS, c1, c2]]
          simp -implicitDefEqProofs [loopOf, loopsOf, codeOf, Tryd.f41, hi', h3, h8, h9, hM, hs, hp, hq, htn, h0i, shv, hw', d1, c1, c1', c2]
          exact ⟨_, rfl, by simp [hs], by intro t ht; cases ht; simp [hs]⟩
        · rw [show walkS (fI want) none ((a, o) :: (a', o') :: R) = walkS (fI want) none ((a', o') :: R) by rw [walkS]; simp [fI, endOfS, c1, c2]]
          simp -implicitDefEqProofs [loopOf, loopsOf, codeOf, Tryd.f41, hi', h3, h8, h9, hM, hs, hp, hq, htn, h0i, shv, hw', d1, c1, c1', c2]
          exact nxt _ (by simp [hs]) (by simp [h3]) (by simp [h8]) (by simp [hs])
    · by_cases c0 : w64 (want - o) < a
      · skip
        cases R with
        | nil =>
          have d1 : ¬ ((i : Int) + 1 < Z.length) := by
            have := congrArg List.length hR
            simp at this
            omega
          by_cases c2 : a ≤ 144001439
          · simp -implicitDefEqProofs [loopOf, loopsOf, codeOf, Tryd.f41, hi', h3, h8, h9, hM, hs, hp, shv, hw', d1, c1, c0, c2, walkS, fI, endOfS]
            exact ⟨_, rfl, by simp [hs], by intro t ht; cases ht; simp [hs]⟩
          · simp -implicitDefEqProofs [loopOf, loopsOf, codeOf, Tryd.f41, hi', h3, h8, h9, hM, hs, hp, shv, hw', d1, c1, c0, c2, walkS, fI, endOfS]
            exact nxt _ (by simp [hs]) (by simp [h3]) (by simp [h8]) (by simp [hs])
        | cons q R =>
          obtain ⟨a', o'⟩ := q
          have hq : Z[i + 1]? = some (a', o') := by
            have := congrArg (fun l => l[1]?) hR
            simpa using this
          have d1 : (i : Int) + 1 < Z.length := by
            have := (List.getElem?_eq_some_iff.1 hq).1
            omega
          by_cases c2 : a ≤ w64 (a' - 1)
          · rw [show walkS (fI want) none ((a, o) :: (a', o') :: R) = some a by simp [walkS, fI, endOfS, c1, c2]]
            simp -implicitDefEqProofs [loopOf, loopsOf, codeOf, Tryd.f41, hi', h3, h8, h9, hM, hs, hp, hq, htn, h0i, shv, hw', d1, c1, c0, c2]
            exact ⟨_, rfl, by simp [hs], by intro t ht; cases ht; simp [hs]⟩
          · rw [show walkS (fI want) none ((a, o) :: (a', o') :: R) = walkS (fI want) none ((a', o') :: R) by rw [walkS]; simp [fI, endOfS, c1, c2]]
            simp -implicitDefEqProofs [loopOf, loopsOf, codeOf, Tryd.f41, hi', h3, h8, h9, hM, hs, hp, hq, htn, h0i, shv, hw', d1, c1, c0, c2]
            exact nxt _ (by simp [hs]) (by simp [h3]) (by simp [h8]) (by simp [hs])
      · have hE : IntKind.i64.wrap (want - o) = a := by
          have : w64 (want - o) = a := by omega
          exact this
        cases R with
        | nil =>
          have d1 : ¬ ((i : Int) + 1 < Z.length) := by
            have := congrArg List.length hR
            simp at this
            omega
          by_cases c2 : a ≤ 144001439
          · simp -implicitDefEqProofs [loopOf, loopsOf, codeOf, Tryd.f41, hi', h3, h8, h9, hM, hs, hp, shv, hw', d1, hE, Int.lt_irrefl, c2, walkS, fI, endOfS]
            exact ⟨_, rfl, by simp [hs], by intro t ht; cases ht; simp [hs]⟩
          · simp -implicitDefEqProofs [loopOf, loopsOf, codeOf, Tryd.f41, hi', h3, h8, h9, hM, hs, hp, shv, hw', d1, hE, Int.lt_irrefl, c2, walkS, fI, endOfS]
            exact nxt _ (by simp [hs]) (by simp [h3]) (by simp [h8]) (by simp [hs])
        | cons q R =>
          obtain ⟨a', o'⟩ := q
          have hq : Z[i + 1]? = some (a', o') := by
            have := congrArg (fun l => l[1]?) hR
            simpa using this
          have d1 : (i : Int) + 1 < Z.length := by
            have := (List.getElem?_eq_some_iff.1 hq).1
            omega
          by_cases c2 : a ≤ w64 (a' - 1)
          · rw [show walkS (fI want) none ((a, o) :: (a', o') :: R) = some a by simp [walkS, fI, endOfS, c1, c2]]
            simp -implicitDefEqProofs [loopOf, loopsOf, codeOf, Tryd.f41, hi', h3, h8, h9, hM, hs, hp, hq, htn, h0i, shv, hw', d1, hE, Int.lt_irrefl, c2]
            exact ⟨_, rfl, by simp [hs], by intro t ht; cases ht; simp [hs]⟩
          · rw [show walkS (fI want) none ((a, o) :: (a', o') :: R) = walkS (fI want) none ((a', o') :: R) by rw [walkS]; simp [fI, endOfS, c1, c2]]
            simp -implicitDefEqProofs [loopOf, loopsOf, codeOf, Tryd.f41, hi', h3, h8, h9, hM, hs, hp, hq, htn, h0i, shv, hw', d1, hE, Int.lt_irrefl, c2]
            exact nxt _ (by simp [hs]) (by simp [h3]) (by simp [h8]) (by simp [hs])
end Go.Den
