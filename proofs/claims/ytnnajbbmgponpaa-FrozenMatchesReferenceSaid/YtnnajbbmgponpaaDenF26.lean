/-
  The program's account agrees with the reference's: the law. Conditions: as each statement says.
-/
import Derived.Test.YtnnajbbmgponpaaDenF25
import Derived.Test.YtnnajbbmgponpaaDenF4
namespace Go.Den
open Go.Proofs
set_option linter.unusedSimpArgs false
set_option linter.unusedVariables false

/-- What the loop of FrozenMatchesReference leaves. -/
def EndB (x : Option (AExit × St)) (r v d u to : Int) (up : Bool) : Prop :=
  ∃ s' A L c nx lv sid, x = some (.exit 0, ⟨s', ⟨A, nx, lv, 0⟩, []⟩) ∧ slen s' = 175 ∧ s'[3]? = some (I u) ∧ s'[5]? = some (I to) ∧ s'[13]? = some (B up) ∧ s'[14]? = some (.ref 0 0 0) ∧ s'[16]? = some (.ref 1 0 0) ∧
    Both A nx lv r v d L c sid ∧ L.length ≤ 20

theorem bool_one (j : Int) : (j == 1) = decide (j = 1) := rfl

set_option maxHeartbeats 8000000 in
theorem loop6 (r v d u to : Int) (up : Bool) (S : List Stp) (c0 : Cap) (k : Nat) (hS : S.length ≤ 12) (hk : 500 < k) (hr : 0 ≤ r ∧ r ≤ 10000) (hv : 0 ≤ v ∧ v ≤ 10000) (hd0 : 0 ≤ d) (hto : to ≤ 100000 → d ≤ to → to - d ≤ 400) : ∀ (R : List Stp) (n i : Nat) (A : List ABlk) (L : List (Int × Int)) (c : Cap) (nx : Nat) (lv : List Nat) (sid : Nat) (s : List AV), slen s = 175 →
    s[3]? = some (I u) → s[4]? = some (.sl 4 (S.map stpv) c0) → s[5]? = some (I to) → s[13]? = some (B up) → s[14]? = some (.ref 0 0 0) → s[16]? = some (.ref 1 0 0) → s[18]? = some (I i) →
    Both A nx lv r v d L c sid → L.length + R.length ≤ 20 → R.length < n → S.drop i = R →
    EndB (loopN [] (exec Try.prog cfg0 (den Try.prog cfg0 (k+9)) (k+9) 6 none [] (loopOf Try.f6 0)) n ⟨s, ⟨A, nx, lv, 0⟩, []⟩) r v d u to up := by
  intro R
  induction R with
  | nil =>
    intro n i A L c nx lv sid s hs g3 g4 g5 g13 g14 g16 g18 hB hl hn hR
    obtain ⟨n, rfl⟩ : ∃ n', n = n' + 1 := ⟨n - 1, by omega⟩
    have hi : ¬ ((i : Int) < S.length) := by
      have := congrArg List.length hR
      simp at this
      omega
    simp -implicitDefEqProofs [loopOf, loopsOf, codeOf, Try.f6, hi, g3, g4, g5, g13, g14, g16, g18, hs]
    exact ⟨_, _, L, c, _, _, sid, rfl, by simp [hs], by simp [g3], by simp [g5], by simp [g13], by simp [g14], by simp [g16], hB, by simpa using hl⟩
  | cons p R ih =>
    intro n i A L c nx lv sid s hs g3 g4 g5 g13 g14 g16 g18 hB hl hn hR
    obtain ⟨n, rfl⟩ : ∃ n', n = n' + 1 := ⟨n - 1, by simp at hn; omega⟩
    have hi : i < S.length := by
      have := congrArg List.length hR
      simp at this
      omega
    have hi' : (i : Int) < S.length := by omega
    have hp : S[i]? = some p := by
      have := congrArg (fun l => l[0]?) hR
      simpa using this
    have hw : IntKind.i64.wrap ((i : Int) + 1) = ((i + 1 : Nat) : Int) := by rw [wrap_fit (by omega) (by omega)]; rfl
    obtain ⟨kd, dd, uu, lic⟩ := p
    obtain ⟨A1, A2, sid', h11, h17, hB2⟩ := both_step hB (kd, dd, uu, lic) k (by simp at hl; omega) (by omega)
    have hle := do_len L false kd dd uu lic
    simp only [stpv, stp] at h11 h17 hB2
    generalize doE L false kd dd uu lic = e at h11 h17
    generalize doN L false kd dd uu lic nx = nx2 at h11 h17 hB2
    generalize doV L c false kd dd uu lic nx lv = lv2 at h11 h17 hB2
    generalize doC L c false kd dd uu lic nx = c2 at hB2
    generalize doL L false kd dd uu lic = L2 at hB2 hle
    have hA2 : 0 < A2.length := (List.getElem?_eq_some_iff.1 hB2.acc).1
    have hdm : (L2.headD (0, 0)).1 = d := hB2.day
    have hkd : intE L2 false to = 0 → to - (L2.headD (0, 0)).1 < ((k + 7 : Nat) : Int) := by
      intro he
      rw [hdm]
      have h0 := intE_zero he
      by_cases hle' : d ≤ to
      · have := hto h0.1.2 hle'; omega
      · omega
    have q13 := fun ro lv => p13 0 ⟨A2, nx2, lv, ro⟩ (k + 5) r v L2 c2 false hA2 hB2.acc (by simp at hl; omega) (by simp at hl; omega)
    have q18 := fun ro lv => p18 1 sid' ⟨A2, nx2, lv, ro⟩ (k + 7) r v L2 false hB2.ref (by simp at hl; omega) (by simp at hl; omega)
    have q12 := fun ro lv f => p12 0 ⟨A2, nx2, lv, ro⟩ (k + 3) r v to f false L2 c2 hB2.cap.conv hA2 hB2.acc (by simp at hl; omega) (by simp at hl; omega) hB2.good.1
    have q19 := fun ro lv f => p19 1 sid' ⟨A2, nx2, lv, ro⟩ (k + 7) r v to f L2 false hB2.ref (by simp at hl; omega) (by simp at hl; omega) hB2.good.1 (by omega) hkd
    simp only [intR_eq hB2.good hr hv] at q19
    simp only [Bool.false_eq_true, if_false] at q13 q18
    simp -implicitDefEqProofs [loopOf, loopsOf, codeOf, Try.f6, hi', g3, g4, g5, g13, g14, g16, g18, hs, hp, stpv, stp, h11, h17, q13, q18, q12, q19, hw]
    exact ih n (i + 1) A2 L2 c2 nx2 lv2 sid' _ (by simp [hs]) (by simp [g3]) (by simp [g4]) (by simp [g5]) (by simp [g13]) (by simp [g14]) (by simp [g16]) (by simp [hs]) hB2 (by simp at hl; omega) (by simp at hn; omega) (by rw [← List.drop_drop, hR]; rfl)
end Go.Den
