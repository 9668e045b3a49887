/-
  Two accounts step by step. Conditions: as each statement says.
-/
import Derived.Test.YtnnajbbmgponpaaDenP2
namespace Go.Den
open Go.Proofs
set_option linter.unusedSimpArgs false

/-- Caps with different tokens. -/
def CapDiff (c1 c2 : Cap) : Prop := ∀ t, c1 = .tok t → c2 ≠ .tok t

theorem app_other {nx : Nat} {lv : List Nat} {c1 c2 : Cap} (h2 : AppOk nx lv c2) (hd : CapDiff c1 c2) (e : Int) : AppOk (nNx e nx) (nLv e c1 nx lv) c2 := by
  by_cases he : e = 0
  · simp only [nNx, nLv, he, if_true]
    cases c2 with
    | no => exact h2.elim
    | tight => trivial
    | tok t =>
      refine ⟨?_, Nat.lt_succ_of_lt h2.2⟩
      refine List.mem_cons_of_mem _ ?_
      cases c1 with
      | no => exact h2.1
      | tight => exact h2.1
      | tok t1 => exact (List.mem_erase_of_ne (fun (h : t = t1) => hd t1 rfl (by rw [h]))).2 h2.1
  · simpa [nNx, nLv, he] using h2
theorem app_lt {nx : Nat} {lv : List Nat} {t : Nat} (h : AppOk nx lv (.tok t)) : t < nx := h.2
theorem app_two {nx : Nat} {lv : List Nat} {c1 c2 : Cap} (h1 : AppOk nx lv c1) (h2 : AppOk nx lv c2) (hd : CapDiff c1 c2) (e : Int) :
    AppOk (nNx e (nNx e nx)) (nLv e c2 (nNx e nx) (nLv e c1 nx lv)) (nCap e c1 nx) ∧ AppOk (nNx e (nNx e nx)) (nLv e c2 (nNx e nx) (nLv e c1 nx lv)) (nCap e c2 (nNx e nx)) ∧ CapDiff (nCap e c1 nx) (nCap e c2 (nNx e nx)) := by
  have k2 := app_other h2 hd e
  refine ⟨?_, nCap_ok k2 e, ?_⟩
  · refine app_other (nCap_ok h1 e) ?_ e
    by_cases he : e = 0
    · simp only [nCap, he, if_true]
      intro t ht h'
      cases h'
      subst ht
      exact absurd (app_lt h2) (by omega)
    · simp only [nCap, if_neg he]
      intro t ht h'
      exact hd t h' ht
  · by_cases he : e = 0
    · simp only [nCap, nNx, he, if_true]
      intro t ht h'
      cases ht; cases h'
    · simpa only [nCap, if_neg he] using hd

/-- What a step that does not correct adds. -/
def addP (x : Stp) : Int × Int := (x.2.1, if x.1 = 0 then x.2.2.1 else w64 (-x.2.2.1))
theorem do_add {x : Stp} (hx : x.1 = 0 ∨ x.1 = 1) (L : List (Int × Int)) (c : Cap) (nx : Nat) (lv : List Nat) :
    doL L false x.1 x.2.1 x.2.2.1 x.2.2.2 = nL (doE L false x.1 x.2.1 x.2.2.1 x.2.2.2) L (addP x) ∧ doC L c false x.1 x.2.1 x.2.2.1 x.2.2.2 nx = nCap (doE L false x.1 x.2.1 x.2.2.1 x.2.2.2) c nx ∧ doN L false x.1 x.2.1 x.2.2.1 x.2.2.2 nx = nNx (doE L false x.1 x.2.1 x.2.2.1 x.2.2.2) nx ∧ doV L c false x.1 x.2.1 x.2.2.1 x.2.2.2 nx lv = nLv (doE L false x.1 x.2.1 x.2.2.1 x.2.2.2) c nx lv := by
  obtain ⟨kd, d, u, lic⟩ := x
  rcases hx with rfl | rfl <;> simp [doL, doC, doN, doV, doE, addP]

/-- Two accounts that differ in their opening alone. -/
structure InM (r v d u o : Int) (R : List (Int × Int)) (c1 c2 : Cap) (nx : Nat) (lv : List Nat) (M : List ABlk) : Prop where
  a0 : M[0]? = some (acc r v ((d, u) :: R) c1 false)
  a1 : M[1]? = some (acc r v ((d, o) :: R) c2 false)
  st : ∀ b ∈ M, Still nx b
  ok1 : AppOk nx lv c1
  ok2 : AppOk nx lv c2
  df : CapDiff c1 c2
  g1 : Good ((d, u) :: R)
  g2 : Good ((d, o) :: R)

theorem still_stp (nx : Nat) (x : Stp) : Still nx (.arr [stpv x] 4) := by
  intro m n nx' _
  simp [stpv, stp]

theorem step4 {r v d u o : Int} {R : List (Int × Int)} {c1 c2 : Cap} {nx : Nat} {lv : List Nat} {M : List ABlk} (h : InM r v d u o R c1 c2 nx lv M) (k : Nat) (hk : 100 < k) (hR : R.length ≤ 90) {x : Stp} (hx : x.1 = 0 ∨ x.1 = 1) :
    ∃ e1 e2 M1 nx1 lv1 M2 nx2 lv2, mcall (den Try.prog cfg0 (k+9)) 11 [.ref 0 0 0, stpv x] ⟨M ++ [.arr [stpv x] 4], nx, lv, 0⟩ = some (I e1, ⟨M1 ++ [.arr [stpv x] 4], nx1, lv1, 0⟩) ∧ M1.length = M.length ∧
      mcall (den Try.prog cfg0 (k+9)) 11 [.ref 1 0 0, stpv x] ⟨M1 ++ [.arr [stpv x] 4], nx1, lv1, 0⟩ = some (I e2, ⟨M2 ++ [.arr [stpv x] 4], nx2, lv2, 0⟩) ∧ M2.length = M.length ∧
      (e1 = e2 → ∃ R' c1' c2', R'.length ≤ R.length + 1 ∧ InM r v d u o R' c1' c2' nx2 lv2 (M2 ++ [.arr [stpv x] 4])) := by
  obtain ⟨a0, a1, st, ok1, ok2, df, g1, g2⟩ := h
  have hl0 : 0 < M.length := (List.getElem?_eq_some_iff.1 a0).1
  have hl1 : 1 < M.length := (List.getElem?_eq_some_iff.1 a1).1
  have stx : ∀ (nx : Nat) (N : List ABlk), (∀ b ∈ N, Still nx b) → ∀ b ∈ N ++ [ABlk.arr [stpv x] 4], Still nx b := by
    intro nx N hN b hb
    rcases List.mem_append.1 hb with hb | hb
    · exact hN b hb
    · simp at hb; subst hb; exact still_stp nx x
  obtain ⟨q1, q2, q3, q4⟩ := do_add hx ((d, u) :: R) c1 nx lv
  generalize he1 : doE ((d, u) :: R) false x.1 x.2.1 x.2.2.1 x.2.2.2 = e1 at q1 q2 q3 q4
  have m1 := m11 0 ⟨M ++ [.arr [stpv x] 4], nx, lv, 0⟩ k r v x.1 x.2.1 x.2.2.1 ((d, u) :: R) c1 false x.2.2.2 (stx nx M st) ok1 (Nat.le_refl _) (by simp) (by rw [get_app_lt hl0]; exact a0) (by simp; omega) (by simp; omega) (by simp)
  rw [q1, q2, q3, q4, he1] at m1
  simp only [] at m1
  rw [set_app_lt hl0] at m1
  have st1 : ∀ b ∈ M.set 0 (acc r v (nL e1 ((d, u) :: R) (addP x)) (nCap e1 c1 nx) false), Still (nNx e1 nx) b := still_set (fun b hb => (st b hb).le (by unfold nNx; split <;> omega)) (still_acc (nCap_ok ok1 e1))
  have k2 := app_other ok2 df e1
  obtain ⟨p1, p2, p3, p4⟩ := do_add hx ((d, o) :: R) c2 (nNx e1 nx) (nLv e1 c1 nx lv)
  generalize he2 : doE ((d, o) :: R) false x.1 x.2.1 x.2.2.1 x.2.2.2 = e2 at p1 p2 p3 p4
  have b1 : (M.set 0 (acc r v (nL e1 ((d, u) :: R) (addP x)) (nCap e1 c1 nx) false))[1]? = some (acc r v ((d, o) :: R) c2 false) := by rw [List.getElem?_set_ne (by omega)]; exact a1
  have m2 := m11 1 ⟨M.set 0 (acc r v (nL e1 ((d, u) :: R) (addP x)) (nCap e1 c1 nx) false) ++ [.arr [stpv x] 4], nNx e1 nx, nLv e1 c1 nx lv, 0⟩ k r v x.1 x.2.1 x.2.2.1 ((d, o) :: R) c2 false x.2.2.2 (stx _ _ st1) k2 (Nat.zero_le _) (by simp; omega) (by rw [get_app_lt (by simpa using hl1)]; exact b1) (by simp; omega) (by simp; omega) (by simp)
  rw [p1, p2, p3, p4, he2] at m2
  simp only [] at m2
  rw [set_app_lt (by simpa using hl1)] at m2
  refine ⟨e1, e2, _, _, _, _, _, _, m1, by simp, m2, by simp, ?_⟩
  intro he
  subst he
  have kk := app_two ok1 ok2 df e1
  have n1 : nL e1 ((d, u) :: R) (addP x) = (d, u) :: nL e1 R (addP x) := by unfold nL; split <;> simp
  have n2 : nL e1 ((d, o) :: R) (addP x) = (d, o) :: nL e1 R (addP x) := by unfold nL; split <;> simp
  have gg1 := g1.step x.1 x.2.1 x.2.2.1 x.2.2.2
  have gg2 := g2.step x.1 x.2.1 x.2.2.1 x.2.2.2
  rw [q1, n1] at gg1
  rw [p1, n2] at gg2
  refine ⟨nL e1 R (addP x), nCap e1 c1 nx, nCap e1 c2 (nNx e1 nx), by unfold nL; split <;> simp, ?_, ?_, ?_, kk.1, kk.2.1, kk.2.2, gg1, gg2⟩
  · rw [get_app_lt (by simp; omega), List.getElem?_set_ne (by omega), List.getElem?_set_self (by omega), n1]
  · rw [get_app_lt (by simp; omega), List.getElem?_set_self (by simp; omega), n2]
  · refine stx _ _ (still_set (fun b hb => (st1 b hb).le (by unfold nNx; split <;> omega)) (still_acc kk.2.1))

theorem free12 (n : Nat) (m0 m1 m2 : AMem) (h : sameBlk m0.blks[n]? m1.blks[n]? = true) : freeAll (Region.before (regionOf Try.f4 11)) [.none, .rd n, .eff m0 m1, .none, .rd n, .eff m1 m2, .none] = true := by
  have : Region.before (regionOf Try.f4 11) = #[0, 0, 3, 0, 0, 31, 63] := by kernel_rfl
  rw [this]
  simp [freeAll, List.zipIdx, Acc.free, h]
  exact ⟨.inl (by decide), by decide, .inl (by decide)⟩
end Go.Den
