/-
  Sums of balances, in plain numbers. Conditions: as each statement says.
-/
import Derived.Test.YtnnajbbmgponpaaDenF6
namespace Go.Den
open Go.Proofs
set_option linter.unusedSimpArgs false

/-- Movements from a day and a balance on: the days are in order, the balances within their bounds. -/
def goodFrom : Int → Int → List (Int × Int) → Prop
  | _, _, [] => True
  | d, b, (d', u) :: L => d ≤ d' ∧ d' ≤ 100000 ∧ 0 ≤ b + u ∧ b + u ≤ 1000000000000 ∧ goodFrom d' (b + u) L
/-- The movements of an account. -/
def Good (L : List (Int × Int)) : Prop := L ≠ [] ∧ goodFrom 0 0 L

theorem w64_fit {n : Int} (h1 : -9223372036854775808 ≤ n) (h2 : n ≤ 9223372036854775807) : w64 n = n := wrap_fit h1 h2

theorem inR_iff {n lo hi : Int} : inR n lo hi = true ↔ lo ≤ n ∧ n ≤ hi := by simp [inR]

/-- The rounds in plain numbers: the total, the day, the balance. -/
def walkZ : Int × Int × Int → List (Int × Int) → Int × Int × Int
  | s, [] => s
  | (t, d, b), (d', u) :: L => walkZ (t + b * (d' - d), d', b + u) L

theorem walk_good : ∀ (L : List (Int × Int)) (t d b : Int), 0 ≤ d → d ≤ 100000 → 0 ≤ b → b ≤ 1000000000000 → 0 ≤ t → t ≤ 1000000000000 * d → goodFrom d b L →
    walkP stepI (t, d, b) L b = walkZ (t, d, b) L ∧ 0 ≤ (walkZ (t, d, b) L).1 ∧ (walkZ (t, d, b) L).1 ≤ 1000000000000 * (walkZ (t, d, b) L).2.1 ∧ 0 ≤ (walkZ (t, d, b) L).2.1 ∧ (walkZ (t, d, b) L).2.1 ≤ 100000 ∧ 0 ≤ (walkZ (t, d, b) L).2.2 ∧ (walkZ (t, d, b) L).2.2 ≤ 1000000000000
  | [], t, d, b, h1, h2, h3, h4, h5, h6, _ => by simp [walkP, walkZ]; omega
  | (d', u) :: L, t, d, b, h1, h2, h3, h4, h5, h6, hg => by
    obtain ⟨g1, g2, g3, g4, g5⟩ := hg
    have hm0 : 0 ≤ b * (d' - d) := Int.mul_nonneg h3 (by omega)
    have hm1 : b * (d' - d) ≤ 1000000000000 * (d' - d) := Int.mul_le_mul_of_nonneg_right h4 (by omega)
    have e1 : IntKind.i64.wrap (b + u) = b + u := wrap_fit (by omega) (by omega)
    have e2 : w64 (d' - d) = d' - d := w64_fit (by omega) (by omega)
    have e3 : w64 (b * (d' - d)) = b * (d' - d) := w64_fit (by omega) (by omega)
    have e4 : w64 (t + b * (d' - d)) = t + b * (d' - d) := w64_fit (by omega) (by omega)
    have := walk_good L (t + b * (d' - d)) d' (b + u) (by omega) g2 g3 g4 (by omega) (by omega) g5
    simpa only [walkP, walkZ, stepI, cond_true, e1, e2, e3, e4] using this

theorem walkZ_last : ∀ (L : List (Int × Int)) (t d b : Int), (walkZ (t, d, b) L).2.1 = (L.getLastD (d, 0)).1 ∧ (walkZ (t, d, b) L).2.2 = b + (L.map (·.2)).sum
  | [], t, d, b => by simp [walkZ]
  | (d', u) :: L, t, d, b => by
    have := walkZ_last L (t + b * (d' - d)) d' (b + u)
    simp only [walkZ, this, List.map_cons, List.sum_cons]
    refine ⟨?_, by omega⟩
    cases L <;> simp [List.getLast?_cons]

theorem sumP_good : ∀ (L : List (Int × Int)) (d b : Int), 0 ≤ b → b ≤ 1000000000000 → goodFrom d b L → sumP b L = b + (L.map (·.2)).sum ∧ 0 ≤ sumP b L ∧ sumP b L ≤ 1000000000000
  | [], d, b, h1, h2, _ => by simp [sumP]; omega
  | (d', u) :: L, d, b, h1, h2, hg => by
    obtain ⟨g1, g2, g3, g4, g5⟩ := hg
    have e1 : IntKind.i64.wrap (b + u) = b + u := wrap_fit (by omega) (by omega)
    have := sumP_good L d' (b + u) g3 g4 g5
    simp only [sumP, List.foldl_cons, e1, List.map_cons, List.sum_cons] at this ⊢
    omega

/-- The total of the balances of all days up to a day, in plain numbers. -/
def totZ (L : List (Int × Int)) (day : Int) : Int :=
  (walkZ (0, (L.headD (0, 0)).1, 0) L).1 + (L.map (·.2)).sum * (day - lastDay L)

theorem totI_good {L : List (Int × Int)} {day : Int} (hg : Good L) (h1 : lastDay L ≤ day) (h2 : day ≤ 100000) :
    totI L day = totZ L day ∧ 0 ≤ totZ L day ∧ totZ L day ≤ 100000000000000000 := by
  obtain ⟨hne, hg⟩ := hg
  obtain ⟨p, L', rfl⟩ : ∃ p L', L = p :: L' := by cases L with | nil => exact absurd rfl hne | cons p L' => exact ⟨p, L', rfl⟩
  obtain ⟨d0, u0⟩ := p
  have hg' := hg
  obtain ⟨g1, g2, g3, g4, g5⟩ := hg
  have hf : goodFrom d0 0 ((d0, u0) :: L') := ⟨by omega, g2, g3, g4, g5⟩
  have hw := walk_good ((d0, u0) :: L') 0 d0 0 (by omega) g2 (by omega) (by omega) (by omega) (by omega) hf
  have hl := walkZ_last ((d0, u0) :: L') 0 d0 0
  have hs := sumP_good ((d0, u0) :: L') 0 0 (by omega) (by omega) hg'
  have hld : (walkZ (0, d0, 0) ((d0, u0) :: L')).2.1 = lastDay ((d0, u0) :: L') := by rw [hl.1]; simp [lastDay, List.getLast?_cons]
  have hsm : (walkZ (0, d0, 0) ((d0, u0) :: L')).2.2 = (((d0, u0) :: L').map (·.2)).sum := by rw [hl.2]; omega
  obtain ⟨w0, w1, w2, w3, w4, w5, w6⟩ := hw
  rw [hld] at w2 w3 w4
  rw [hsm] at w5 w6
  unfold totI totZ
  simp only [List.headD_cons]
  rw [w0, hld, hsm]
  generalize (walkZ (0, d0, 0) ((d0, u0) :: L')).1 = T at *
  generalize (((d0, u0) :: L').map (·.2)).sum = S at *
  generalize lastDay ((d0, u0) :: L') = D at *
  have hm0 : 0 ≤ S * (day - D) := Int.mul_nonneg w5 (by omega)
  have hm1 : S * (day - D) ≤ 1000000000000 * (day - D) := Int.mul_le_mul_of_nonneg_right w6 (by omega)
  have e2 : w64 (day - D) = day - D := w64_fit (by omega) (by omega)
  have e3 : w64 (S * (day - D)) = S * (day - D) := w64_fit (by omega) (by omega)
  rw [e2, e3, w64_fit (by omega) (by omega)]
  refine ⟨rfl, by omega, by omega⟩

/-- The interest of a total. -/
theorem valI_eq {t r : Int} (h1 : 0 ≤ t) (h2 : t ≤ 100000000000000000) (h3 : 0 ≤ r) (h4 : r ≤ 10000) : valI t r = t * r / 3650000 := by
  unfold valI
  rw [Int.tdiv_eq_ediv_of_nonneg h1, Int.tmod_eq_emod_of_nonneg h1]
  have hq0 : 0 ≤ t / 3650000 := by omega
  have hq1 : t / 3650000 ≤ 30000000000 := by omega
  have hm0 : 0 ≤ t % 3650000 := by omega
  have hm1 : t % 3650000 ≤ 3650000 := by omega
  have a0 : 0 ≤ t / 3650000 * r := Int.mul_nonneg hq0 h3
  have a1 : t / 3650000 * r ≤ 30000000000 * 10000 := Int.mul_le_mul hq1 h4 h3 (by omega)
  have b0 : 0 ≤ t % 3650000 * r := Int.mul_nonneg hm0 h3
  have b1 : t % 3650000 * r ≤ 3650000 * 10000 := Int.mul_le_mul hm1 h4 h3 (by omega)
  rw [w64_fit (n := t / 3650000) (by omega) (by omega), w64_fit (n := t % 3650000 * r) (by omega) (by omega), Int.tdiv_eq_ediv_of_nonneg b0, w64_fit (n := t / 3650000 * r) (by omega) (by omega), w64_fit (n := t % 3650000 * r / 3650000) (by omega) (by omega), w64_fit (by omega) (by omega)]
  have : t * r = t % 3650000 * r + t / 3650000 * r * 3650000 := by
    have : t = t % 3650000 + 3650000 * (t / 3650000) := by omega
    calc t * r = (t % 3650000 + 3650000 * (t / 3650000)) * r := by rw [← this]
      _ = _ := by rw [Int.add_mul, Int.mul_assoc, Int.mul_comm 3650000]
  rw [this, Int.add_mul_ediv_right _ _ (by omega)]
  omega

theorem okNew_iff {r v d u : Int} : okNew r v d u = true ↔ (0 ≤ r ∧ r ≤ 10000) ∧ (0 ≤ v ∧ v ≤ 10000) ∧ (0 ≤ d ∧ d ≤ 100000) ∧ (0 ≤ u ∧ u ≤ 1000000000000) := by
  simp [okNew, inR, and_assoc]
theorem good_new {r v d u : Int} (h : okNew r v d u = true) : Good [(d, u)] := by
  rw [okNew_iff] at h
  refine ⟨by simp, ?_⟩
  simp only [goodFrom, and_true]
  omega
theorem totZ_one (d u to : Int) : totZ [(d, u)] to = u * (to - d) := by simp [totZ, walkZ, lastDay]
end Go.Den
