/-
  The balance is kept: the law. Conditions: as each statement says.
-/
import Derived.Test.YtnnajbbmgponpaaDenF19
import Derived.Test.YtnnajbbmgponpaaDenF4
namespace Go.Den
open Go.Proofs
set_option linter.unusedSimpArgs false
set_option linter.unusedVariables false

theorem loop8a (r v to d u : Int) (up : Bool) (S : List Stp) (a : AV) (ha : StpL a S) (k : Nat) (hS : S.length ≤ 12) (hk : 100 < k) (hg : Good [(d, u)]) (s : List AV) (hs : slen s = 200) (g4 : s[4]? = some a) (g5 : s[5]? = some (I to)) (g13 : s[13]? = some (B up)) (g14 : s[14]? = some (.ref 0 0 0))
    (g16 : s[16]? = some (.own 1 1 0 1)) (g17 : s[17]? = some (I 0)) :
    EndK (loopN [] (exec Try.prog cfg0 (den Try.prog cfg0 (k+10)) (k+10) 8 none [] (loopOf Try.f8 0)) (k+10) ⟨s, ⟨[acc r v [(d, u)] .tight false, .vec [I u] 1], 0, [], 0⟩, []⟩) r v to up := by
  have hst : ∀ b ∈ [acc r v [(d, u)] .tight false, ABlk.vec [I u] 1], Still 0 b := by
    intro b hb
    simp at hb
    rcases hb with rfl | rfl
    · exact still_acc (lv := []) (show AppOk 0 [] .tight from trivial)
    · exact still_one
  rcases ha with ⟨rfl, rfl⟩ | ⟨c, rfl⟩
  · rw [loopN_succ]
    simp -implicitDefEqProofs [-loopN_succ, loopOf, loopsOf, codeOf, Try.f8, g4, g5, g13, g14, g16, g17, hs]
    exact ⟨_, _, [(d, u)], .tight, _, _, rfl, by simp [hs], by simp [g5], by simp [g13], by simp [g14], rfl, hst, trivial, hg, by simp⟩
  · exact loopK8 r v to up S c (k + 1) hS (by omega) S (k + 10) 0 1 _ [(d, u)] .tight 0 [] s hs g4 g5 g13 g14 g16 g17 rfl rfl (by omega) hst trivial hg (by simp; omega) (by omega) rfl

set_option maxHeartbeats 8000000 in
set_option maxRecDepth 100000 in
theorem d8 (k : Nat) (hk : 100 < k) (hh : pcall (den Try.prog cfg0 (k + 10)) 9 [] M0 = some (B true)) (r v d u to : Int) (a : AV) (S : List Stp) (ha : StpL a S) :
    ∃ m', den Try.prog cfg0 (k + 11) (.call 8 [I r, I v, I d, I u, a, I to]) M0 = some (B true, m') := by
  rw [den_call Try.func8 rfl]
  have hd := fun y m hro => d10 r v d y m (k + 7) hro
  have hlen := ha.len
  cases h1 : okNew r v d u
  · simp -implicitDefEqProofs [-loopN_succ, Try.f8, hh, hd, h1]
  have hnew := okNew_iff.1 h1
  have hg0 : Good [(d, u)] := good_new h1
  by_cases h2 : S.length ≤ 12
  case neg =>
    have h2' : 12 < (S.length : Int) := by omega
    simp -implicitDefEqProofs [-loopN_succ, -lenA, hlen, Try.f8, hh, hd, h1, h2']
  have h2' : ¬ 12 < (S.length : Int) := by omega
  simp -implicitDefEqProofs [-loopN_succ, -lenA, hlen, Try.f8, hh, hd, h1, h2']
  generalize hx : loopN _ _ _ _ = x
  have hE : EndK x r v to true := by
    rw [← hx]
    have hl := loop8a r v to d u true S a ha k h2 hk hg0
    simp -implicitDefEqProofs [-loopN_succ, loopOf, loopsOf, codeOf, Try.f8] at hl
    exact hl _ rfl rfl rfl rfl rfl rfl rfl
  obtain ⟨s', A, L, c, nx, lv, rfl, hs, q5, q13, q14, hA, hst, hc, hg, hl⟩ := hE
  have hA0 : 0 < A.length := (List.getElem?_eq_some_iff.1 hA).1
  have h13 := fun ro lv => p13 0 ⟨A, nx, lv, ro⟩ (k + 6) r v L c false hA0 hA (by omega) (by omega)
  have h20 := m20 0 ⟨A, nx, lv, 0⟩ (k + 3) r v to true L c false hst hc (Nat.le_refl _) hA0 hA (by omega) (by omega) hg.1
  by_cases he : intE L false to = 0
  case neg =>
    have hv : intV r v L false to true = 0 := by simp [intV, he]
    have hb : (intE L false to == 0) = false := by simp [he]
    simp only [hb, Bool.or_false, set_self hA, hv, if_neg he] at h20
    simp -implicitDefEqProofs [-loopN_succ, Try.f8, q5, q13, q14, hs, h13, h20, he]
  have hto := (intE_zero he).1
  have hin : inR to 0 100000 = true := inR_iff.2 hto
  have hb : (intE L false to == 0) = true := by simp [he]
  have hiv := intV_good hg (f := true) hnew.1 hnew.2.1 he
  have hq : 0 ≤ intV r v L false to true := by
    rw [hiv.1]
    exact Int.ediv_nonneg (Int.mul_nonneg hiv.2.1 (by simp; omega)) (by omega)
  simp only [hb, Bool.or_true, if_pos he] at h20
  generalize hA1 : A.set 0 (acc r v L c true) = A1 at h20
  have hl1 : 0 < A1.length := by rw [← hA1]; simpa using hA0
  have hA1' : A1[0]? = some (acc r v L c true) := by rw [← hA1, List.getElem?_set_self hA0]
  have hst1 : ∀ b ∈ A1, Still nx b := by rw [← hA1]; exact still_set hst (still_acc hc)
  have i1 : intE L true to = 29 := by simp [intE, hin]
  have i2 : rcvE L true to 1 = 29 := by
    have : inR 1 1 1000000000000 = true := by simp [inR]
    simp [rcvE, hin, this, addE]
  have i3 : movE L true to 1 true = 29 := by
    have : inR 1 1 1000000000000 = true := by simp [inR]
    simp [movE, hin, this, addE]
  have i4 : corE L true 0 0 = 29 := by
    have : inR 0 (-1000000000000) 1000000000000 = true := by simp [inR]
    simp [corE, this]
  have iv : ∀ f, intV r v L true to f = 0 := fun f => by simp [intV, i1]
  have j13 := fun ro lv => p13 0 ⟨A1, nx, lv, ro⟩ (k + 6) r v L c true hl1 hA1' (by omega) (by omega)
  have j12 := fun ro lv => p12 0 ⟨A1, nx, lv, ro⟩ (k + 4) r v to false true L c hc.conv hl1 hA1' (by omega) (by omega) hg.1
  have j20 := m20 0 ⟨A1, nx, lv, 0⟩ (k + 3) r v to false L c true hst1 hc (Nat.le_refl _) hl1 hA1' (by omega) (by omega) hg.1
  have j22 := m22 0 ⟨A1, nx, lv, 0⟩ (k + 2) r v to 1 L c true hst1 hc (Nat.le_refl _) hl1 hA1' (by omega) (by omega) hg.1
  have j23 := m23 0 ⟨A1, nx, lv, 0⟩ (k + 2) r v to 1 L c true true hst1 hc (Nat.le_refl _) hl1 hA1' (by omega) (by omega) hg.1
  have j14 := m14 0 ⟨A1, nx, lv, 0⟩ (k + 4) r v 0 0 L c true hst1 hc (Nat.le_refl _) hl1 hA1' (by omega) (by omega)
  simp only [i1, i2, i3, i4, iv, nL, nCap, nNx, nLv, cL, cCap, Bool.true_or, set_self hA1', show ¬ (29 : Int) = 0 by omega, if_false] at j12 j20 j22 j23 j14
  simp -implicitDefEqProofs [-loopN_succ, Try.f8, q5, q13, q14, hs, h13, h20, he, j12, j13, j20, j22, j23, j14, hq]
end Go.Den
