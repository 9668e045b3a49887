/-
  FrozenMatchesReference: the law. Conditions: as each statement says.
-/
import Derived.Test.YtnnajbbmgponpaaDenF26
namespace Go.Den
open Go.Proofs
set_option linter.unusedSimpArgs false
set_option linter.unusedVariables false

def shortB (a b : Int) : Bool := decide (a < 0) || decide (100000 < b) || decide (b < a) || decide (w64 (b - a) < 0) || decide (w64 (b - a) ≤ 400)
theorem p15 (a b : Int) (m : AMem) (k : Nat) : pcall (den Try.prog cfg0 (k+1)) 15 [I a, I b] m = some (B (shortB a b)) := by
  refine pcall_v ?_
  rw [den_call Try.func15 rfl]
  unfold shortB
  by_cases h1 : a < 0
  · simp [Try.f15, h1]
  by_cases h2 : 100000 < b
  · simp [Try.f15, h1, h2]
  by_cases h3 : b < a
  · simp [Try.f15, h1, h2, h3]
  by_cases h4 : w64 (b - a) < 0
  · simp [Try.f15, h1, h2, h3, h4]
  by_cases h5 : w64 (b - a) ≤ 400 <;> simp [Try.f15, h1, h2, h3, h4, h5]

theorem short_days {d to : Int} (h : shortB d to = true) (h0 : 0 ≤ d) : to ≤ 100000 → d ≤ to → to - d ≤ 400 := by
  intro h1 h2
  have e : w64 (to - d) = to - d := w64_fit (by omega) (by omega)
  unfold shortB at h
  rw [e] at h
  simp at h
  omega

theorem both_new {r v d u : Int} (h : okNew r v d u = true) : Both [acc r v [(d, u)] .tight false, accR r v 2 1 false, .vec [mv (d, u)] 2] 0 [] r v d [(d, u)] .tight 2 := by
  refine ⟨rfl, ⟨rfl, rfl⟩, ?_, trivial, good_new h, rfl⟩
  intro b hb
  simp at hb
  rcases hb with rfl | rfl | rfl
  · exact still_acc (lv := []) (show AppOk 0 [] .tight from trivial)
  · exact still_accR (by simp)
  · exact still_mvs (M := [(d, u)])

theorem loop6a (r v d u to : Int) (up : Bool) (S : List Stp) (a : AV) (ha : StpL a S) (k : Nat) (hS : S.length ≤ 12) (hk : 500 < k) (hr : 0 ≤ r ∧ r ≤ 10000) (hv : 0 ≤ v ∧ v ≤ 10000) (hd0 : 0 ≤ d) (hto : to ≤ 100000 → d ≤ to → to - d ≤ 400) (hB : Both [acc r v [(d, u)] .tight false, accR r v 2 1 false, .vec [mv (d, u)] 2] 0 [] r v d [(d, u)] .tight 2)
    (s : List AV) (hs : slen s = 175) (g3 : s[3]? = some (I u)) (g4 : s[4]? = some a) (g5 : s[5]? = some (I to)) (g13 : s[13]? = some (B up)) (g14 : s[14]? = some (.ref 0 0 0)) (g16 : s[16]? = some (.ref 1 0 0)) (g18 : s[18]? = some (I 0)) :
    EndB (loopN [] (exec Try.prog cfg0 (den Try.prog cfg0 (k+10)) (k+10) 6 none [] (loopOf Try.f6 0)) (k+10) ⟨s, ⟨[acc r v [(d, u)] .tight false, accR r v 2 1 false, .vec [mv (d, u)] 2], 0, [], 0⟩, []⟩) r v d u to up := by
  rcases ha with ⟨rfl, rfl⟩ | ⟨c, rfl⟩
  · rw [loopN_succ]
    simp -implicitDefEqProofs [-loopN_succ, loopOf, loopsOf, codeOf, Try.f6, g3, g4, g5, g13, g14, g16, g18, hs]
    exact ⟨_, _, [(d, u)], .tight, _, _, 2, rfl, by simp [hs], by simp [g3], by simp [g5], by simp [g13], by simp [g14], by simp [g16], hB, by simp⟩
  · exact loop6 r v d u to up S c (k + 1) hS (by omega) hr hv hd0 hto S (k + 10) 0 _ [(d, u)] .tight 0 [] 2 s hs g3 g4 g5 g13 g14 g16 g18 hB (by simp; omega) (by omega) rfl

set_option maxHeartbeats 8000000 in
set_option maxRecDepth 100000 in
theorem d6 (k : Nat) (hk : 500 < k) (hh : pcall (den Try.prog cfg0 (k + 10)) 9 [] M0 = some (B true)) (r v d u to : Int) (a : AV) (S : List Stp) (ha : StpL a S) :
    ∃ m', den Try.prog cfg0 (k + 11) (.call 6 [I r, I v, I d, I u, a, I to]) M0 = some (B true, m') := by
  rw [den_call Try.func6 rfl]
  have hlen := ha.len
  have h15 := fun m => p15 d to m (k + 9)
  by_cases h2 : S.length ≤ 12
  case neg =>
    have h2' : 12 < (S.length : Int) := by omega
    simp -implicitDefEqProofs [-loopN_succ, -lenA, hlen, Try.f6, hh, h2']
  have h2' : ¬ 12 < (S.length : Int) := by omega
  cases hsh : shortB d to
  · simp -implicitDefEqProofs [-loopN_succ, -lenA, hlen, Try.f6, hh, h2', h15, hsh]
  have hd := fun y m hro => d10 r v d y m (k + 7) hro
  have hd2 := fun y m hro => d16 r v d y m (k + 7) hro
  cases h1 : okNew r v d u
  · cases S with
    | nil =>
      simp only [List.length_nil] at hlen
      simp (maxSteps := 2000000) -implicitDefEqProofs [-lenA, hlen, Try.f6, hh, h15, hsh, hd, hd2, h1]
    | cons p S =>
      have h0 : (0 : Int) < ((S.length + 1 : Nat) : Int) := by omega
      have h0' : (0 : Int) < (S.length : Int) + 1 := by omega
      simp only [List.length_cons] at hlen h2'
      have h3' : ¬ 12 < (S.length : Int) + 1 := by omega
      simp (maxSteps := 2000000) -implicitDefEqProofs [-lenA, hlen, Try.f6, hh, h2', h3', h15, hsh, hd, hd2, h1, h0, h0']
  have hnew := okNew_iff.1 h1
  have hto := short_days hsh hnew.2.2.1.1
  simp -implicitDefEqProofs [-loopN_succ, -lenA, hlen, Try.f6, hh, h2', h15, hsh, hd, hd2, h1]
  generalize hx : loopN _ _ _ _ = x
  have hE : EndB x r v d u to true := by
    rw [← hx]
    have hl := loop6a r v d u to true S a ha k h2 hk hnew.1 hnew.2.1 hnew.2.2.1.1 hto (both_new h1)
    simp -implicitDefEqProofs [-loopN_succ, loopOf, loopsOf, codeOf, Try.f6] at hl
    exact hl _ rfl rfl rfl rfl rfl rfl rfl rfl
  obtain ⟨s', A, L, c, nx, lv, sid, rfl, hs, q3, q5, q13, q14, q16, hB, hl⟩ := hE
  obtain ⟨hA, hR, hst, hc, hg, hday⟩ := hB
  have hA0 : 0 < A.length := (List.getElem?_eq_some_iff.1 hA).1
  have hl1 := hR.lt
  have hs0 : 0 ≠ sid := by
    rintro rfl
    rw [hR.vec] at hA
    simp [Den.acc] at hA
  have hkd : intE L false to = 0 → to - (L.headD (0, 0)).1 < ((k + 7 : Nat) : Int) := by
    intro he
    rw [hday]
    have h0 := intE_zero he
    by_cases hle' : d ≤ to
    · have := hto h0.1.2 hle'; omega
    · omega
  have h20 := fun f => m20 0 ⟨A, nx, lv, 0⟩ (k + 3) r v to f L c false hst hc (Nat.le_refl _) hA0 hA (by omega) (by omega) hg.1
  have e0 : ∀ cl, (A.set 0 (acc r v L c cl))[0]? = some (acc r v L c cl) := fun cl => List.getElem?_set_self hA0
  have hR1 : ∀ cl, AtR (A.set 0 (acc r v L c cl)) 1 sid r v L false := fun cl => ⟨by rw [List.getElem?_set_ne (by omega)]; exact hR.acc, by rw [List.getElem?_set_ne hs0]; exact hR.vec⟩
  have hst1 : ∀ cl, ∀ b ∈ A.set 0 (acc r v L c cl), Still (A.set 0 (acc r v L c cl)).length nx b := fun cl => by
    rw [List.length_set]; exact still_set hst (still_acc hc)
  have h21 := fun f cl => m21 1 sid ⟨A.set 0 (acc r v L c cl), nx, lv, 0⟩ (k + 7) r v to f L false (hst1 cl) (hR1 cl) (Nat.zero_le _) (by omega) (by omega) hg.1 (by omega) hkd
  have h13 := fun cl cl' ro lv => p13 0 ⟨(A.set 0 (acc r v L c cl)).set 1 (accR r v sid L.length cl'), nx, lv, ro⟩ (k + 6) r v L c cl (by simpa using hA0) (by rw [List.getElem?_set_ne (by omega)]; exact e0 cl) (by omega) (by omega)
  have h18 := fun cl cl' ro lv => p18 1 sid ⟨(A.set 0 (acc r v L c cl)).set 1 (accR r v sid L.length cl'), nx, lv, ro⟩ (k + 8) r v L cl' ⟨by rw [List.getElem?_set_self (by simpa using hl1.1)], by rw [List.getElem?_set_ne hl1.2.2]; exact (hR1 cl).vec⟩ (by omega) (by omega)
  simp only [intR_eq hg hnew.1 hnew.2.1, Bool.false_or] at h20 h21
  generalize hb : (intE L false to == 0) = cl at h20 h21
  simp (maxSteps := 2000000) -implicitDefEqProofs [-loopN_succ, Try.f6, q3, q5, q13, q14, q16, hs, h20, h21, h13, h18]
end Go.Den
