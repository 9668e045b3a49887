/-
  The reference's accounts: interest, corrections. Conditions: as each statement says.
-/
import Derived.Test.YtnnajbbmgponpaaDenF20
namespace Go.Den
open Go.Proofs
set_option linter.unusedSimpArgs false
set_option linter.unusedVariables false

/-- A day of interest: the whole units, and the rest. -/
def dayR (rate : Int) (L : List (Int × Int)) (day : Int) (s : Int × Int) : Int × Int :=
  (w64 (s.1 + w64 ((w64 (s.2 + w64 (onP day 0 L * rate))).tdiv 3650000)), (w64 (s.2 + w64 (onP day 0 L * rate))).tmod 3650000)
/-- n days from a day on. -/
def daysR (rate : Int) (L : List (Int × Int)) : Nat → Int → Int × Int → Int × Int
  | 0, _, s => s
  | n + 1, day, s => daysR rate L n (w64 (day + 1)) (dayR rate L day s)

theorem loop19 (id sid : Nat) (r v : Int) (L : List (Int × Int)) (cl : Bool) (A : List ABlk) (nx ro : Nat) (lv : List Nat) (k : Nat) (to rate : Int) (hL : L.length ≤ 1000000) (hk : L.length < k) (hA : AtR A id sid r v L cl) (hto : to ≤ 100000) : ∀ (j n : Nat) (day : Int) (x : Int × Int) (s : List AV), slen s = 62 →
    s[0]? = some (.ref id 0 0) → s[1]? = some (I to) → s[8]? = some (I rate) → s[9]? = some (I x.1) → s[10]? = some (I x.2) → s[11]? = some (I day) → j < n → -100000 ≤ day → (to - day).toNat = j →
    EndM (loopN [] (exec Try.prog cfg0 (den Try.prog cfg0 (k+1)) (k+1) 19 none [] (loopOf Try.f19 0)) n ⟨s, ⟨A, nx, lv, ro⟩, []⟩) (.exit 0) ⟨A, nx, lv, ro⟩ 62 [(9, I (daysR rate L j day x).1)] := by
  intro j
  induction j with
  | zero =>
    intro n day x s hs g0 g1 g8 g9 g10 g11 hn hd hj
    obtain ⟨n, rfl⟩ : ∃ n', n = n' + 1 := ⟨n - 1, by omega⟩
    have hi : ¬ (day < to) := by omega
    simp -implicitDefEqProofs [loopOf, loopsOf, codeOf, Try.f19, hi, g0, g1, g8, g9, g10, g11, hs]
    exact ⟨_, rfl, by simp [hs], by simp [g9, daysR]⟩
  | succ j ih =>
    intro n day x s hs g0 g1 g8 g9 g10 g11 hn hd hj
    obtain ⟨n, rfl⟩ : ∃ n', n = n' + 1 := ⟨n - 1, by omega⟩
    have hi : day < to := by omega
    have h40 := fun nx lv ro => p40 id sid ⟨A, nx, lv, ro⟩ k r v day L cl hA hL hk
    have hw : IntKind.i64.wrap (day + 1) = day + 1 := wrap_fit (by omega) (by omega)
    simp -implicitDefEqProofs [loopOf, loopsOf, codeOf, Try.f19, hi, g0, g1, g8, g9, g10, g11, hs, h40]
    have hx := ih n (day + 1) (dayR rate L day x)
    have e : daysR rate L (j + 1) day x = daysR rate L j (day + 1) (dayR rate L day x) := by
      show daysR rate L j (w64 (day + 1)) (dayR rate L day x) = _
      rw [show w64 (day + 1) = day + 1 from hw]
    rw [e]
    exact hx _ (by simp [hs]) (by simp [g0]) (by simp [g1]) (by simp [g8]) (by simp [hs, dayR]) (by simp [hs, dayR]) (by simp [hs, hw]) (by omega) (by omega) (by omega)

/-- The interest of the reference. -/
def intR (r v : Int) (L : List (Int × Int)) (cl : Bool) (day : Int) (f : Bool) : Int :=
  if intE L cl day = 0 then (daysR (if f then v else r) L (day - (L.headD (0, 0)).1).toNat (L.headD (0, 0)).1 (0, 0)).1 else 0

theorem p19 (id sid : Nat) (m : AMem) (k : Nat) (r v day : Int) (f : Bool) (L : List (Int × Int)) (cl : Bool) (h : AtR m.blks id sid r v L cl) (hn : L.length ≤ 1000000) (hk : L.length < k) (hL : L ≠ []) (hd0 : -100000 ≤ (L.headD (0, 0)).1) (hkd : intE L cl day = 0 → day - (L.headD (0, 0)).1 < k) :
    pcall (den Try.prog cfg0 (k+2)) 19 [.ref id 0 0, I day, B f] m = some (.tup [I (intR r v L cl day f), I (intE L cl day)]) := by
  have hacc := h.acc
  have hvec := h.vec
  have h39 := fun nx lv ro => p39 id sid ⟨m.blks, nx, lv, ro⟩ k r v L cl h hn hL
  have key : ∃ m', den Try.prog cfg0 (k+2) (.call 19 [.ref id 0 0, I day, B f]) ⟨m.blks, m.next, [], m.blks.length⟩ = some (.tup [I (intR r v L cl day f), I (intE L cl day)], m') := by
    rw [den_call Try.func19 rfl]
    unfold intR
    cases h1 : inR day 0 100000
    · simp -implicitDefEqProofs [-loopN_succ, Try.f19, h1, intE]
    have h1' := inR_iff.1 h1
    cases cl
    case true => simp -implicitDefEqProofs [-loopN_succ, Try.f19, h1, intE, hacc, accR]
    by_cases h2 : day < lastDay L
    · simp -implicitDefEqProofs [-loopN_succ, Try.f19, h1, intE, hacc, accR, h39, h2]
    obtain ⟨p, L', rfl⟩ : ∃ p L', L = p :: L' := by cases L with | nil => exact absurd rfl hL | cons p L' => exact ⟨p, L', rfl⟩
    have hpos : (0 : Int) < (L'.length : Int) + 1 := by omega
    have he : intE (p :: L') false day = 0 := by simp [intE, h1, h2]
    have hkd := hkd he
    simp only [List.headD_cons] at hd0 hkd ⊢
    cases f <;> simp -implicitDefEqProofs [-loopN_succ, Try.f19, h1, hacc, accR, hvec, h39, h2, he, hpos, mv] <;> generalize hx : loopN _ _ _ _ = x
    · have hE : EndM x (.exit 0) ⟨m.blks, m.next, [], m.blks.length⟩ 62 [(9, I (daysR r (p :: L') (day - p.1).toNat p.1 (0, 0)).1)] := by
        rw [← hx]
        have hl := loop19 id sid r v (p :: L') false m.blks m.next m.blks.length [] k day r hn hk h h1'.2 (day - p.1).toNat (k + 1) p.1 (0, 0)
        simp -implicitDefEqProofs [-loopN_succ, loopOf, loopsOf, codeOf, Try.f19] at hl
        exact hl _ rfl rfl rfl rfl rfl rfl rfl (by omega) hd0
      obtain ⟨s', rfl, hs', hkp⟩ := hE
      have q9 : s'[9]? = some (I (daysR r (p :: L') (day - p.1).toNat p.1 (0, 0)).1) := hkp (9, _) (by simp)
      simp -implicitDefEqProofs [q9, hs']
    · have hE : EndM x (.exit 0) ⟨m.blks, m.next, [], m.blks.length⟩ 62 [(9, I (daysR v (p :: L') (day - p.1).toNat p.1 (0, 0)).1)] := by
        rw [← hx]
        have hl := loop19 id sid r v (p :: L') false m.blks m.next m.blks.length [] k day v hn hk h h1'.2 (day - p.1).toNat (k + 1) p.1 (0, 0)
        simp -implicitDefEqProofs [-loopN_succ, loopOf, loopsOf, codeOf, Try.f19] at hl
        exact hl _ rfl rfl rfl rfl rfl rfl rfl (by omega) hd0
      obtain ⟨s', rfl, hs', hkp⟩ := hE
      have q9 : s'[9]? = some (I (daysR v (p :: L') (day - p.1).toNat p.1 (0, 0)).1) := hkp (9, _) (by simp)
      simp -implicitDefEqProofs [q9, hs']
  obtain ⟨m', hm⟩ := key
  rw [pcall_of hm]
  simp
end Go.Den
