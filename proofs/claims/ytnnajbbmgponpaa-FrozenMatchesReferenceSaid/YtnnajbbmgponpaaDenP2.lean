/-
  What the steps of an account keep, in plain numbers. Conditions: as each statement says.
-/
import Derived.Test.YtnnajbbmgponpaaDenP1
import Derived.Test.YtnnajbbmgponpaaDenF13
namespace Go.Den
open Go.Proofs
set_option linter.unusedSimpArgs false

def daysFrom : Int → List Int → Prop
  | _, [] => True
  | d, d' :: L => d ≤ d' ∧ d' ≤ 100000 ∧ daysFrom d' L
def smallU (L : List (Int × Int)) : Prop := ∀ p ∈ L, -1000000000000 ≤ p.2 ∧ p.2 ≤ 1000000000000

theorem good_days : ∀ (L : List (Int × Int)) (d b : Int), 0 ≤ b → b ≤ 1000000000000 → goodFrom d b L → daysFrom d (L.map (·.1)) ∧ smallU L
  | [], _, _, _, _, _ => ⟨trivial, by simp [smallU]⟩
  | (d', u) :: L, d, b, h1, h2, hg => by
    obtain ⟨g1, g2, g3, g4, g5⟩ := hg
    have := good_days L d' (b + u) g3 g4 g5
    refine ⟨⟨g1, g2, this.1⟩, ?_⟩
    intro p hp
    rcases List.mem_cons.1 hp with rfl | hp
    · constructor <;> simp only <;> omega
    · exact this.2 p hp
theorem good_of : ∀ (L : List (Int × Int)) (d b : Int), 0 ≤ b → b ≤ 1000000000000 → daysFrom d (L.map (·.1)) → smallU L → walkP fC false L b = false → goodFrom d b L
  | [], _, _, _, _, _, _, _ => trivial
  | (d', u) :: L, d, b, h1, h2, hd, hu, hw => by
    have hu0 := hu (d', u) (by simp)
    simp only at hu0
    have e : IntKind.i64.wrap (b + u) = b + u := wrap_fit (by omega) (by omega)
    simp only [walkP, fC, e] at hw
    cases hb : inR (b + u) 0 1000000000000
    · simp [hb] at hw
    · simp only [hb, cond_true, Bool.not_true] at hw
      rw [inR_iff] at hb
      exact ⟨hd.1, hd.2.1, hb.1, hb.2, good_of L d' (b + u) hb.1 hb.2 hd.2.2 (fun p hp => hu p (by simp [hp])) hw⟩
theorem walk_of_good : ∀ (L : List (Int × Int)) (d b : Int), 0 ≤ b → b ≤ 1000000000000 → goodFrom d b L → walkP fC false L b = false
  | [], _, _, _, _, _ => rfl
  | (d', u) :: L, d, b, h1, h2, hg => by
    obtain ⟨g1, g2, g3, g4, g5⟩ := hg
    have e : IntKind.i64.wrap (b + u) = b + u := wrap_fit (by omega) (by omega)
    simp only [walkP, fC, e, inR_iff.2 ⟨g3, g4⟩, cond_true, Bool.not_true]
    exact walk_of_good L d' (b + u) g3 g4 g5

theorem good_app : ∀ (L : List (Int × Int)) (d b d' u : Int), goodFrom d b L → (L.getLastD (d, 0)).1 ≤ d' → d' ≤ 100000 → 0 ≤ b + (L.map (·.2)).sum + u → b + (L.map (·.2)).sum + u ≤ 1000000000000 → goodFrom d b (L ++ [(d', u)])
  | [], d, b, d', u, _, h1, h2, h3, h4 => by
    simp at h1 h3 h4
    exact ⟨h1, h2, by omega, by omega, trivial⟩
  | (d0, u0) :: L, d, b, d', u, hg, h1, h2, h3, h4 => by
    obtain ⟨g1, g2, g3, g4, g5⟩ := hg
    simp only [List.map_cons, List.sum_cons] at h3 h4
    refine ⟨g1, g2, g3, g4, good_app L d0 (b + u0) d' u g5 ?_ h2 (by omega) (by omega)⟩
    cases L <;> simpa [List.getLast?_cons] using h1

theorem corL_days (L : List (Int × Int)) (i u : Int) : (corL L i u).map (·.1) = L.map (·.1) := by
  unfold corL
  rw [List.map_set]
  by_cases h : i.toNat < L.length
  · have : (L.getD i.toNat (0, 0)).1 = (L.map (·.1))[i.toNat]'(by simpa using h) := by simp [List.getD, h]
    rw [this, List.set_getElem_self]
  · rw [List.set_eq_of_length_le (by simp; omega)]
theorem corL_ne {L : List (Int × Int)} (h : L ≠ []) (i u : Int) : corL L i u ≠ [] := by
  intro h0
  have := congrArg List.length h0
  rw [corL_len] at this
  exact h (List.length_eq_zero_iff.1 this)
theorem corL_small {L : List (Int × Int)} (h : smallU L) {i u : Int} (h1 : -1000000000000 ≤ u) (h2 : u ≤ 1000000000000) : smallU (corL L i u) := by
  intro p hp
  rcases List.mem_or_eq_of_mem_set hp with hp | rfl
  · exact h p hp
  · exact ⟨h1, h2⟩

theorem add_ok {L : List (Int × Int)} {d u : Int} {lic : Bool} (h : addE L false d u lic = 0) : lic = true ∧ lastDay L ≤ d ∧ 0 ≤ w64 (sumP 0 L + u) ∧ w64 (sumP 0 L + u) ≤ 1000000000000 := by
  unfold addE at h
  cases lic
  · simp at h
  by_cases h1 : d < lastDay L
  · simp [h1] at h
  by_cases h2 : w64 (sumP 0 L + u) < 0
  · simp [h1, h2] at h
  by_cases h3 : 1000 ≤ L.length ∨ 1000000000000 < w64 (sumP 0 L + u)
  · simp [h1, h2, h3] at h
  refine ⟨rfl, by omega, by omega, by omega⟩

theorem Good.add {L : List (Int × Int)} (hg : Good L) {d u : Int} {lic : Bool} (hd : d ≤ 100000) (h : addE L false d u lic = 0) (h1 : -1000000000000 ≤ u) (h2 : u ≤ 1000000000000) : Good (L ++ [(d, u)]) := by
  obtain ⟨_, a1, a2, a3⟩ := add_ok h
  have hs := sumP_good L 0 0 (by omega) (by omega) hg.2
  rw [w64_fit (by omega) (by omega)] at a2 a3
  refine ⟨by simp, good_app L 0 0 d u hg.2 a1 hd (by omega) (by omega)⟩

theorem rcv_ok {L : List (Int × Int)} {d u : Int} (h : rcvE L false d u = 0) : (0 ≤ d ∧ d ≤ 100000) ∧ (1 ≤ u ∧ u ≤ 1000000000000) ∧ addE L false d u true = 0 := by
  unfold rcvE at h
  cases h1 : inR d 0 100000
  · simp [h1] at h
  cases h2 : inR u 1 1000000000000
  · simp [h1, h2] at h
  simp only [h1, h2, Bool.and_true, if_true] at h
  exact ⟨inR_iff.1 h1, inR_iff.1 h2, h⟩
theorem mov_ok {L : List (Int × Int)} {d u : Int} {lic : Bool} (h : movE L false d u lic = 0) : (0 ≤ d ∧ d ≤ 100000) ∧ (1 ≤ u ∧ u ≤ 1000000000000) ∧ addE L false d (w64 (-u)) lic = 0 := by
  unfold movE at h
  cases h1 : inR d 0 100000
  · simp [h1] at h
  cases h2 : inR u 1 1000000000000
  · simp [h1, h2] at h
  simp only [h1, h2, Bool.and_true, if_true] at h
  exact ⟨inR_iff.1 h1, inR_iff.1 h2, h⟩
theorem cor_ok {L : List (Int × Int)} {i u : Int} (h : corE L false i u = 0) : (-1000000000000 ≤ u ∧ u ≤ 1000000000000) ∧ inR i 0 (w64 (L.length - 1)) = true ∧ walkP fC false (corL L i u) 0 = false := by
  unfold corE at h
  cases h1 : inR u (-1000000000000) 1000000000000
  · simp [h1] at h
  cases h2 : inR i 0 (w64 (L.length - 1))
  · simp [h1, h2] at h
  cases h3 : walkP fC false (corL L i u) 0
  · exact ⟨inR_iff.1 h1, rfl, rfl⟩
  · simp [h1, h2, h3] at h

theorem Good.cor {L : List (Int × Int)} (hg : Good L) {i u : Int} (h1 : -1000000000000 ≤ u) (h2 : u ≤ 1000000000000) (hw : walkP fC false (corL L i u) 0 = false) : Good (corL L i u) := by
  have hd := good_days L 0 0 (by omega) (by omega) hg.2
  exact ⟨corL_ne hg.1 i u, good_of _ 0 0 (by omega) (by omega) (by rw [corL_days]; exact hd.1) (corL_small hd.2 h1 h2) hw⟩

theorem Good.step {L : List (Int × Int)} (hg : Good L) (kd d u : Int) (lic : Bool) : Good (doL L false kd d u lic) := by
  unfold doL nL cL
  split
  · split
    · rename_i h
      obtain ⟨a1, a2, a3⟩ := rcv_ok h
      exact hg.add a1.2 a3 (by omega) (by omega)
    · exact hg
  split
  · split
    · rename_i h
      obtain ⟨a1, a2, a3⟩ := mov_ok h
      have e : w64 (-u) = -u := w64_fit (by omega) (by omega)
      rw [e] at a3 ⊢
      exact hg.add a1.2 a3 (by omega) (by omega)
    · exact hg
  · split
    · rename_i h
      obtain ⟨a1, a2, a3⟩ := cor_ok h
      exact hg.cor a1.1 a1.2 a3
    · exact hg

theorem AS.good {s : AS} (h : Good s.L) : ∀ S : List Stp, Good (S.foldl AS.step s).L
  | [] => h
  | x :: S => AS.good (s := s.step x) (h.step _ _ _ _) S
theorem AS.ok_fold : ∀ (S : List Stp) {n : Nat} {s : AS} (_ : s.Ok n), (S.foldl AS.step s).Ok (n + S.length)
  | [], _, _, h => h
  | x :: S, n, s, h => by
    have := AS.ok_fold S (h.step x)
    rw [List.length_cons, Nat.add_comm S.length, ← Nat.add_assoc]
    exact this

theorem intE_zero {L : List (Int × Int)} {to : Int} (h : intE L false to = 0) : (0 ≤ to ∧ to ≤ 100000) ∧ lastDay L ≤ to := by
  unfold intE at h
  cases h1 : inR to 0 100000
  · simp [h1] at h
  by_cases h2 : to < lastDay L
  · simp [h1, h2] at h
  exact ⟨inR_iff.1 h1, by omega⟩
theorem intE_of {L : List (Int × Int)} {to : Int} (h1 : 0 ≤ to) (h2 : to ≤ 100000) (h3 : lastDay L ≤ to) : intE L false to = 0 := by
  simp [intE, inR_iff.2 ⟨h1, h2⟩, Int.not_lt.2 h3]

theorem intV_good {L : List (Int × Int)} (hg : Good L) {r v to : Int} {f : Bool} (hr : 0 ≤ r ∧ r ≤ 10000) (hv : 0 ≤ v ∧ v ≤ 10000) (h : intE L false to = 0) :
    intV r v L false to f = totZ L to * (if f then v else r) / 3650000 ∧ 0 ≤ totZ L to ∧ totZ L to ≤ 100000000000000000 := by
  obtain ⟨h1, h2⟩ := intE_zero h
  have ht := totI_good hg h2 h1.2
  unfold intV
  rw [if_pos h, ht.1]
  have hr' : 0 ≤ (if f = true then v else r) ∧ (if f = true then v else r) ≤ 10000 := by cases f <;> simp <;> omega
  exact ⟨valI_eq ht.2.1 ht.2.2 hr'.1 hr'.2, ht.2⟩

/-- The interest up to the next day. -/
theorem days {L : List (Int × Int)} (hg : Good L) {r v to : Int} {f : Bool} (hr : 0 ≤ r ∧ r ≤ 10000) (hv : 0 ≤ v ∧ v ≤ 10000) (hto : to < 100000) (h : intE L false to = 0) :
    intE L false (to + 1) = 0 ∧ intV r v L false to f ≤ intV r v L false (to + 1) f ∧ w64 ((w64 (sumP 0 L * (if f then v else r))).tdiv 3650000) ≤ w64 (intV r v L false (to + 1) f - intV r v L false to f) ∧ w64 (intV r v L false (to + 1) f - intV r v L false to f) ≤ w64 (w64 ((w64 (sumP 0 L * (if f then v else r))).tdiv 3650000) + 1) := by
  have h0 := intE_zero h
  have h' : intE L false (to + 1) = 0 := intE_of (by omega) (by omega) (by omega)
  refine ⟨h', ?_⟩
  have e0 := intV_good hg (f := f) hr hv h
  have e1 := intV_good hg (f := f) hr hv h'
  have hs := sumP_good L 0 0 (by omega) (by omega) hg.2
  have hr' : 0 ≤ (if f = true then v else r) ∧ (if f = true then v else r) ≤ 10000 := by cases f <;> simp <;> omega
  have ht : totZ L (to + 1) = totZ L to + sumP 0 L := by
    rw [hs.1]
    unfold totZ
    rw [show to + 1 - lastDay L = (to - lastDay L) + 1 by omega, Int.mul_add]
    omega
  rw [e0.1, e1.1, ht]
  rw [ht] at e1
  generalize (if f = true then v else r) = q at *
  generalize sumP 0 L = b at *
  generalize totZ L to = t at *
  have a0 : 0 ≤ b * q := Int.mul_nonneg hs.2.1 hr'.1
  have a1 : b * q ≤ 1000000000000 * 10000 := Int.mul_le_mul hs.2.2 hr'.2 hr'.1 (by omega)
  have b0 : 0 ≤ t * q := Int.mul_nonneg e0.2.1 hr'.1
  have b1 : t * q ≤ 100000000000000000 * 10000 := Int.mul_le_mul e0.2.2 hr'.2 hr'.1 (by omega)
  rw [Int.add_mul]
  rw [w64_fit (n := b * q) (by omega) (by omega), Int.tdiv_eq_ediv_of_nonneg a0]
  generalize b * q = x at *
  generalize t * q = y at *
  rw [w64_fit (n := x / 3650000) (by omega) (by omega), w64_fit (n := (y + x) / 3650000 - y / 3650000) (by omega) (by omega), w64_fit (by omega) (by omega)]
  omega
end Go.Den
