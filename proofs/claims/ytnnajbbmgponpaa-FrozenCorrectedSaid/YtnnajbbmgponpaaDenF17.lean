/-
  The law of corrected units. Conditions: as each statement says.
-/
import Derived.Test.YtnnajbbmgponpaaDenF16
import Derived.Test.YtnnajbbmgponpaaDenF4
namespace Go.Den
open Go.Proofs
set_option linter.unusedSimpArgs false

theorem corE_first {d u o : Int} {R : List (Int × Int)} (hR : R.length ≤ 90) (ho : 0 ≤ o ∧ o ≤ 1000000000000) (hg : Good ((d, o) :: R)) : corE ((d, u) :: R) false 0 o = 0 ∧ corL ((d, u) :: R) 0 o = (d, o) :: R := by
  have hc : corL ((d, u) :: R) 0 o = (d, o) :: R := by simp [corL]
  refine ⟨?_, hc⟩
  unfold corE
  rw [hc, walk_of_good _ 0 0 (by omega) (by omega) hg.2, inR_iff.2 ⟨by omega, ho.2⟩]
  have : inR 0 0 (w64 ((((d, u) :: R).length : Int) - 1)) = true := by
    rw [w64_fit (by first | omega | (simp; omega) | simp) (by first | omega | (simp; omega) | simp)]
    exact inR_iff.2 ⟨by omega, by simp⟩
  rw [this]
  rfl

set_option maxHeartbeats 4000000 in
set_option maxRecDepth 100000 in
theorem d4 (k : Nat) (hk : 100 < k) (hh : pcall (den Try.prog cfg0 (k + 10)) 9 [] M0 = some (B true)) (r v d u o to : Int) (f : Bool) (a : AV) (S : List Stp) (ha : StpL a S) :
    ∃ m', den Try.prog cfg0 (k + 11) (.call 4 [I r, I v, I d, I u, I o, a, I to, B f]) M0 = some (B true, m') := by
  rw [den_call Try.func4 rfl]
  have hd := fun u m hro => d10 r v d u m (k + 7) hro
  have hlen := ha.len
  cases h1 : okNew r v d u
  · cases h1' : okNew r v d o <;> simp -implicitDefEqProofs [-loopN_succ, Try.f4, hh, hd, h1, h1']
  cases h1' : okNew r v d o
  · simp -implicitDefEqProofs [-loopN_succ, Try.f4, hh, hd, h1, h1']
  have hnew := okNew_iff.1 h1'
  by_cases h2 : S.length ≤ 12
  case neg =>
    have h2' : 12 < (S.length : Int) := by omega
    simp -implicitDefEqProofs [-loopN_succ, -lenA, hlen, Try.f4, hh, hd, h1, h1', h2']
  have h2' : ¬ 12 < (S.length : Int) := by omega
  have hI0 : InM r v d u o [] .tight .tight 0 [] [acc r v [(d, u)] .tight false, acc r v [(d, o)] .tight false] :=
    ⟨rfl, rfl, (by
      intro b hb
      simp at hb
      rcases hb with rfl | rfl
      · exact still_acc (lv := []) (show AppOk 0 [] .tight from trivial)
      · exact still_acc (lv := []) (show AppOk 0 [] .tight from trivial)), trivial, trivial, (by intro t ht; cases ht), good_new h1, good_new h1'⟩
  obtain ⟨y22, y23, y58, y59, y60, y61, y62, y63, y64, y65, y66, y67, y68, y69, y70, y71, y72, y73, y74, y75, y76, y77, y78, y79, hl⟩ := loop4a r v d u o S a ha k h2 hk hI0
  rcases hl with ⟨m', hl⟩ | ⟨R, c1, c2, nx, lv, M, hR, hI, hl⟩
  · simp -implicitDefEqProofs [-loopN_succ, -lenA, hlen, loopOf, loopsOf, codeOf, Try.f4] at hl
    simp -implicitDefEqProofs [-loopN_succ, -lenA, hlen, Try.f4, hh, hd, h1, h1', h2', hl]
  · simp -implicitDefEqProofs [-loopN_succ, -lenA, hlen, loopOf, loopsOf, codeOf, Try.f4] at hl
    obtain ⟨a0, a1, st, ok1, ok2, df, g1, g2⟩ := hI
    have hl0 : 0 < M.length := (List.getElem?_eq_some_iff.1 a0).1
    have hl1 : 1 < M.length := (List.getElem?_eq_some_iff.1 a1).1
    obtain ⟨k1, k2⟩ := corE_first (u := u) hR hnew.2.2.2 g2
    have h14 := m14 0 ⟨M, nx, lv, 0⟩ (k + 4) r v 0 o ((d, u) :: R) c1 false st ok1 (Nat.le_refl _) hl0 a0 (by simp; omega) (by simp; omega)
    rw [k1] at h14
    simp only [cL, cCap, if_true, k2] at h14
    have b0 : (M.set 0 (acc r v ((d, o) :: R) .tight false))[0]? = some (acc r v ((d, o) :: R) .tight false) := List.getElem?_set_self hl0
    have b1 : (M.set 0 (acc r v ((d, o) :: R) .tight false))[1]? = some (acc r v ((d, o) :: R) c2 false) := by rw [List.getElem?_set_ne (by omega)]; exact a1
    have e0 := fun lv ro => p12 0 ⟨M.set 0 (acc r v ((d, o) :: R) .tight false), nx, lv, ro⟩ (k + 4) r v to f false _ .tight rfl (by simpa using hl0) b0 (by simp; omega) (by simp; omega) (by simp)
    have e1 := fun lv ro => p12 1 ⟨M.set 0 (acc r v ((d, o) :: R) .tight false), nx, lv, ro⟩ (k + 4) r v to f false _ c2 ok2.conv (by simpa using hl1) b1 (by simp; omega) (by simp; omega) (by simp)
    have s0 := fun lv ro => p13 0 ⟨M.set 0 (acc r v ((d, o) :: R) .tight false), nx, lv, ro⟩ (k + 6) r v _ .tight false (by simpa using hl0) b0 (by simp; omega) (by simp; omega)
    have s1 := fun lv ro => p13 1 ⟨M.set 0 (acc r v ((d, o) :: R) .tight false), nx, lv, ro⟩ (k + 6) r v _ c2 false (by simpa using hl1) b1 (by simp; omega) (by simp; omega)
    simp (maxSteps := 2000000) -implicitDefEqProofs [-loopN_succ, -lenA, hlen, Try.f4, hh, hd, h1, h1', h2', hl, h14, e0, e1, s0, s1]
end Go.Den
