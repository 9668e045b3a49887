/-
  The interest that is added up each day is the interest of the total, in plain numbers. Conditions: as each statement says.
-/
import Derived.Test.YtnnajbbmgponpaaDenP2
import Derived.Test.YtnnajbbmgponpaaDenF24
namespace Go.Den
open Go.Proofs
set_option linter.unusedSimpArgs false
set_option linter.unusedVariables false

/-- The balance on a day, in plain numbers. -/
def onZ (day : Int) (L : List (Int × Int)) : Int := (L.map fun p => if p.1 ≤ day then p.2 else 0).sum

theorem on_late : ∀ (L : List (Int × Int)) (day d b : Int), day < d → daysFrom d (L.map (·.1)) → onP day b L = b ∧ onZ day L = 0
  | [], day, d, b, _, _ => ⟨rfl, rfl⟩
  | (d', u) :: L, day, d, b, h, hd => by
    have hd' : day < d' := by have h1 : d ≤ d' := hd.1; omega
    have ih := on_late L day d' b hd' hd.2.2
    have e : onP day b ((d', u) :: L) = onP day (if d' ≤ day then IntKind.i64.wrap (b + u) else b) L := rfl
    rw [e, if_neg (by omega)]
    refine ⟨ih.1, ?_⟩
    have := ih.2
    simp only [onZ] at this ⊢
    simp only [List.map_cons, List.sum_cons]
    rw [if_neg (by omega), this]; rfl

theorem on_good : ∀ (L : List (Int × Int)) (day d b : Int), 0 ≤ b → b ≤ 1000000000000 → goodFrom d b L → onP day b L = b + onZ day L ∧ 0 ≤ onP day b L ∧ onP day b L ≤ 1000000000000
  | [], day, d, b, h1, h2, _ => by simp [onP, onZ]; omega
  | (d', u) :: L, day, d, b, h1, h2, hg => by
    obtain ⟨g1, g2, g3, g4, g5⟩ := hg
    have e1 : IntKind.i64.wrap (b + u) = b + u := wrap_fit (by omega) (by omega)
    have e : onP day b ((d', u) :: L) = onP day (if d' ≤ day then IntKind.i64.wrap (b + u) else b) L := rfl
    have ez : onZ day ((d', u) :: L) = (if d' ≤ day then u else 0) + onZ day L := rfl
    rw [e, ez]
    by_cases h : d' ≤ day
    · rw [if_pos h, if_pos h, e1]
      have := on_good L day d' (b + u) g3 g4 g5
      omega
    · rw [if_neg h, if_neg h]
      have hd := (good_days L d' (b + u) g3 g4 g5).1
      have := on_late L day d' b (by omega) hd
      omega

/-- The sum over n days from a day on. -/
def dsum (L : List (Int × Int)) : Nat → Int → Int
  | 0, _ => 0
  | n + 1, day => onZ day L + dsum L n (day + 1)

/-- What one movement brings to n days from a day on. -/
def share (day n : Int) (p : Int × Int) : Int := p.2 * (day + n - max day p.1)

theorem share_step : ∀ (L : List (Int × Int)) (day n : Int), onZ day L + (L.map (share (day + 1) n)).sum = (L.map (share day (n + 1))).sum
  | [], _, _ => rfl
  | (d, u) :: L, day, n => by
    have ih := share_step L day n
    have ez : onZ day ((d, u) :: L) = (if d ≤ day then u else 0) + onZ day L := rfl
    simp only [List.map_cons, List.sum_cons, ez]
    have : (if d ≤ day then u else 0) + share (day + 1) n (d, u) = share day (n + 1) (d, u) := by
      unfold share
      simp only
      by_cases h : d ≤ day
      · rw [if_pos h, Int.max_eq_left (by omega : d ≤ day + 1), Int.max_eq_left h]
        rw [show day + 1 + n - (day + 1) = n by omega, show day + (n + 1) - day = n + 1 by omega, Int.mul_add, Int.mul_one]; omega
      · rw [if_neg h, Int.max_eq_right (by omega : day + 1 ≤ d), Int.max_eq_right (by omega : day ≤ d)]
        rw [show day + 1 + n - d = day + (n + 1) - d by omega]; omega
    omega

theorem dsum_eq (L : List (Int × Int)) : ∀ (n : Nat) (day : Int), (∀ p ∈ L, p.1 ≤ day + n) → dsum L n day = (L.map (share day n)).sum
  | 0, day, h => by
    have : ∀ M : List (Int × Int), (∀ p ∈ M, p.1 ≤ day) → (M.map (share day (0 : Nat))).sum = 0 := by
      intro M
      induction M with
      | nil => intro _; rfl
      | cons p M ih =>
        intro hM
        simp only [List.map_cons, List.sum_cons, ih (fun q hq => hM q (by simp [hq]))]
        have := hM p (by simp)
        unfold share
        rw [Int.max_eq_left this]
        simp
    exact (this L (fun p hp => by have := h p hp; omega)).symm
  | n + 1, day, h => by
    have ih := dsum_eq L n (day + 1) (fun p hp => by have := h p hp; omega)
    have hs := share_step L day n
    simp only [dsum, ih]
    rw [hs]
    rfl

/-- The total, movement by movement. -/
theorem walkZ_share (to : Int) : ∀ (L : List (Int × Int)) (t d b : Int), (walkZ (t, d, b) L).1 + (walkZ (t, d, b) L).2.2 * (to - (walkZ (t, d, b) L).2.1) = t + b * (to - d) + (L.map fun p => p.2 * (to - p.1)).sum
  | [], t, d, b => by simp [walkZ]
  | (d', u) :: L, t, d, b => by
    have := walkZ_share to L (t + b * (d' - d)) d' (b + u)
    simp only [walkZ, this, List.map_cons, List.sum_cons]
    have e : b * (to - d) = b * (d' - d) + b * (to - d') := by rw [← Int.mul_add]; congr 1; omega
    rw [e, Int.add_mul]
    omega

theorem totZ_dsum {L : List (Int × Int)} (hg : Good L) {to : Int} (h1 : lastDay L ≤ to) : totZ L to = dsum L (to - (L.headD (0, 0)).1).toNat (L.headD (0, 0)).1 := by
  obtain ⟨hne, hg⟩ := hg
  obtain ⟨p, L', rfl⟩ : ∃ p L', L = p :: L' := by cases L with | nil => exact absurd rfl hne | cons p L' => exact ⟨p, L', rfl⟩
  obtain ⟨d0, u0⟩ := p
  have hd := (good_days _ 0 0 (by omega) (by omega) hg).1
  -- every day lies between the first and the last
  have hlast : ∀ (M : List (Int × Int)) (d : Int), daysFrom d (M.map (·.1)) → ∀ p ∈ M, d ≤ p.1 ∧ p.1 ≤ (M.getLastD (d, 0)).1 := by
    intro M
    induction M with
    | nil => intro d _ p hp; simp at hp
    | cons q M ih =>
      intro d hM p hp
      obtain ⟨e, v⟩ := q
      obtain ⟨a1, a2, a3⟩ := hM
      have hl : ((e, v) :: M).getLastD (d, 0) = M.getLastD (e, v) := by cases M <;> rfl
      have hl2 : (M.getLastD (e, v)).1 = (M.getLastD (e, 0)).1 := by cases M <;> rfl
      rw [hl, hl2]
      rcases List.mem_cons.1 hp with rfl | hp
      · refine ⟨a1, ?_⟩
        cases M with
        | nil => exact Int.le_refl _
        | cons q' M' =>
          have := ih e a3 q' (by simp)
          simp only at this ⊢
          omega
      · have := ih e a3 p hp
        have a1' : d ≤ e := a1
        omega
  have hd0 : daysFrom d0 ((((d0, u0) :: L')).map (·.1)) := ⟨Int.le_refl _, hd.2.1, hd.2.2⟩
  have hall := hlast ((d0, u0) :: L') d0 hd0
  have hld : (((d0, u0) :: L').getLastD (d0, 0)).1 = lastDay ((d0, u0) :: L') := by unfold lastDay; cases L' <;> rfl
  rw [hld] at hall
  have h00 : d0 ≤ to := by have := (hall (d0, u0) (by simp)).2; simp only at this; omega
  have hw := walkZ_share to ((d0, u0) :: L') 0 d0 0
  have hwl := walkZ_last ((d0, u0) :: L') 0 d0 0
  have e1 : (walkZ (0, d0, 0) ((d0, u0) :: L')).2.1 = lastDay ((d0, u0) :: L') := by rw [hwl.1]; unfold lastDay; cases L' <;> rfl
  have e2 : (walkZ (0, d0, 0) ((d0, u0) :: L')).2.2 = (((d0, u0) :: L').map (·.2)).sum := by rw [hwl.2]; omega
  rw [e1, e2] at hw
  unfold totZ
  simp only [List.headD_cons]
  rw [hw]
  have hn : ((to - d0).toNat : Int) = to - d0 := by omega
  rw [dsum_eq _ _ _ (fun p hp => by rw [hn]; have := (hall p hp).2; omega)]
  have : ∀ M : List (Int × Int), (∀ p ∈ M, d0 ≤ p.1) → (M.map fun p => p.2 * (to - p.1)).sum = (M.map (share d0 ((to - d0).toNat : Nat))).sum := by
    intro M
    induction M with
    | nil => intro _; rfl
    | cons p M ih =>
      intro hM
      simp only [List.map_cons, List.sum_cons, ih (fun q hq => hM q (by simp [hq]))]
      have := hM p (by simp)
      unfold share
      rw [Int.max_eq_right this, hn, show d0 + (to - d0) - p.1 = to - p.1 by omega]
  rw [this _ (fun p hp => (hall p hp).1)]
  omega

theorem daysR_eq {L : List (Int × Int)} (hg : Good L) {rate : Int} (hr : 0 ≤ rate ∧ rate ≤ 10000) : ∀ (n : Nat) (day w ρ : Int) (c : Nat), 0 ≤ day → day + n ≤ 100000 → 0 ≤ w → w ≤ 3000000000 * (c : Int) → c + n ≤ 100000 → 0 ≤ ρ → ρ < 3650000 →
    (daysR rate L n day (w, ρ)).1 * 3650000 + (daysR rate L n day (w, ρ)).2 = w * 3650000 + ρ + rate * dsum L n day ∧ 0 ≤ (daysR rate L n day (w, ρ)).2 ∧ (daysR rate L n day (w, ρ)).2 < 3650000
  | 0, day, w, ρ, c, _, _, _, _, _, h1, h2 => by simp [daysR, dsum]; omega
  | n + 1, day, w, ρ, c, d1, d2, w1, w2, hc, h1, h2 => by
    have ho := on_good L day 0 0 (by omega) (by omega) hg.2
    have hz : onZ day L = onP day 0 L := by omega
    generalize ho' : onP day 0 L = o at *
    have m0 : 0 ≤ o * rate := Int.mul_nonneg ho.2.1 hr.1
    have m1 : o * rate ≤ 1000000000000 * 10000 := Int.mul_le_mul ho.2.2 hr.2 hr.1 (by omega)
    have hc' : ((c + 1 : Nat) : Int) = (c : Int) + 1 := by omega
    have hcn : (c : Int) + (n : Int) + 1 ≤ 100000 := by omega
    have e1 : w64 (day + 1) = day + 1 := w64_fit (by omega) (by omega)
    have e2 : w64 (o * rate) = o * rate := w64_fit (by omega) (by omega)
    have e3 : w64 (ρ + o * rate) = ρ + o * rate := w64_fit (by omega) (by omega)
    have hq : (ρ + o * rate).tdiv 3650000 = (ρ + o * rate) / 3650000 := Int.tdiv_eq_ediv_of_nonneg (by omega)
    have hm : (ρ + o * rate).tmod 3650000 = (ρ + o * rate) % 3650000 := Int.tmod_eq_emod_of_nonneg (by omega)
    generalize hx : ρ + o * rate = x at *
    have e4 : w64 (x / 3650000) = x / 3650000 := w64_fit (by omega) (by omega)
    have e5 : w64 (w + x / 3650000) = w + x / 3650000 := w64_fit (by omega) (by omega)
    have hstep : dayR rate L day (w, ρ) = (w + x / 3650000, x % 3650000) := by
      unfold dayR
      simp only [ho', e2, hx, e3, hq, hm, e4, e5]
    simp only [daysR, hstep, e1]
    have ih := daysR_eq hg hr n (day + 1) (w + x / 3650000) (x % 3650000) (c + 1) (by omega) (by omega) (by omega) (by rw [hc', Int.mul_add]; omega) (by omega) (by omega) (by omega)
    refine ⟨?_, ih.2⟩
    rw [ih.1]
    have ed : dsum L (n + 1) day = onZ day L + dsum L n (day + 1) := rfl
    rw [ed, hz, Int.mul_add, Int.mul_comm rate o]
    generalize rate * dsum L n (day + 1) = y
    omega

/-- The reference's interest is the program's. -/
theorem intR_eq {L : List (Int × Int)} (hg : Good L) {r v to : Int} {f cl : Bool} (hr : 0 ≤ r ∧ r ≤ 10000) (hv : 0 ≤ v ∧ v ≤ 10000) : intR r v L cl to f = intV r v L cl to f := by
  by_cases h : intE L cl to = 0
  · have hcl : cl = false := by
      cases cl
      · rfl
      · simp only [intE] at h
        split at h <;> simp at h
    subst hcl
    have h0 := intE_zero h
    have hiv := intV_good hg (f := f) hr hv h
    rw [hiv.1]
    unfold intR
    rw [if_pos h]
    have hr' : 0 ≤ (if f = true then v else r) ∧ (if f = true then v else r) ≤ 10000 := by cases f <;> simp <;> omega
    have hd := (good_days _ 0 0 (by omega) (by omega) hg.2).1
    have hd0 : 0 ≤ (L.headD (0, 0)).1 ∧ (L.headD (0, 0)).1 ≤ 100000 := by
      obtain ⟨hne, _⟩ := hg
      cases L with
      | nil => exact absurd rfl hne
      | cons p L' => exact ⟨hd.1, hd.2.1⟩
    have ht := totZ_dsum hg h0.2
    have hfl : (L.headD (0, 0)).1 ≤ to := by
      rcases Int.lt_or_le to (L.headD (0, 0)).1 with hlt | hle
      · exfalso
        obtain ⟨hne, hg'⟩ := hg
        cases L with
        | nil => exact absurd rfl hne
        | cons p L' =>
          have key : ∀ (M : List (Int × Int)) (d : Int), daysFrom d (M.map (·.1)) → d ≤ (M.getLastD (d, 0)).1 := by
            intro M
            induction M with
            | nil => intro d _; exact Int.le_refl _
            | cons q M ih =>
              intro d hM
              obtain ⟨a1, a2, a3⟩ := hM
              have := ih q.1 a3
              have a1' : d ≤ q.1 := a1
              have hl : ((q :: M).getLastD (d, 0)).1 = (M.getLastD (q.1, 0)).1 := by cases M <;> rfl
              rw [hl]; omega
          have := key L' p.1 hd.2.2
          have hl : (L'.getLastD (p.1, 0)).1 = lastDay (p :: L') := by unfold lastDay; cases L' <;> rfl
          rw [hl] at this
          simp only [List.headD_cons] at hlt
          have := h0.2
          omega
      · exact hle
    have hdr := daysR_eq hg hr' (to - (L.headD (0, 0)).1).toNat (L.headD (0, 0)).1 0 0 0 hd0.1 (by omega) (by omega) (by omega) (by omega) (by omega) (by omega)
    rw [← ht] at hdr
    generalize (daysR (if f = true then v else r) L (to - (L.headD (0, 0)).1).toNat (L.headD (0, 0)).1 (0, 0)).1 = W at *
    generalize (daysR (if f = true then v else r) L (to - (L.headD (0, 0)).1).toNat (L.headD (0, 0)).1 (0, 0)).2 = R at *
    rw [Int.mul_comm (totZ L to)]
    generalize (if f = true then v else r) * totZ L to = X at *
    omega
  · simp [intR, intV, h]

/-- The errors are the same. -/
theorem addR_eq {L : List (Int × Int)} (hg : Good L) {cl : Bool} {d u : Int} (hu : 1 ≤ u) (hu2 : u ≤ 1000000000000) : addR L cl d u = addE L cl d u true := by
  have hs := sumP_good L 0 0 (by omega) (by omega) hg.2
  have e : w64 (sumP 0 L + u) = sumP 0 L + u := w64_fit (by omega) (by omega)
  unfold addR addE
  rw [e]
  have : ¬ sumP 0 L + u < 0 := by omega
  simp [this]
theorem rcvR_eq {L : List (Int × Int)} (hg : Good L) {cl : Bool} {d u : Int} : rcvR L cl d u = rcvE L cl d u := by
  unfold rcvR rcvE
  cases h1 : inR d 0 100000
  · simp
  cases h2 : inR u 1 1000000000000
  · simp
  have := inR_iff.1 h2
  simp [addR_eq hg this.1 this.2]
theorem movR_eq {L : List (Int × Int)} (hg : Good L) {cl lic : Bool} {d u : Int} : movR L cl d u lic = movE L cl d u lic := by
  unfold movR movE
  cases h1 : inR d 0 100000
  · simp
  cases h2 : inR u 1 1000000000000
  · simp
  have hu := inR_iff.1 h2
  have hs := sumP_good L 0 0 (by omega) (by omega) hg.2
  have e0 : w64 (-u) = -u := w64_fit (by omega) (by omega)
  have e : w64 (sumP 0 L + -u) = sumP 0 L + -u := w64_fit (by omega) (by omega)
  unfold addE
  rw [e0, e]
  have h3 : (sumP 0 L + -u < 0) = (sumP 0 L < u) := by simp; omega
  have h4 : ¬ 1000000000000 < sumP 0 L + -u := by omega
  simp only [Bool.and_true, if_true, h3, h4, or_false]
theorem doR_eq {L : List (Int × Int)} (hg : Good L) {cl lic : Bool} {kd d u : Int} : doR L cl kd d u lic = doE L cl kd d u lic := by
  unfold doR doE
  rw [rcvR_eq hg, movR_eq hg]
end Go.Den
