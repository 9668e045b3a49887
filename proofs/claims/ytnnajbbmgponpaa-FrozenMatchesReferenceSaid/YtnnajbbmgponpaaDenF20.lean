/-
  The reference's accounts: sums, the last day, the balance on a day. Conditions: as each statement says.
-/
import Derived.Test.YtnnajbbmgponpaaDenP2
import Derived.Test.YtnnajbbmgponpaaDenF18
namespace Go.Den
open Go.Proofs
set_option linter.unusedSimpArgs false
set_option linter.unusedVariables false

/-- A reference account: its movements lie in the block sid. -/
def accR (r v : Int) (sid n : Nat) (cl : Bool) : ABlk := .arr [.agg [I r, I v, .own 2 sid 0 n, B cl]] 4

/-- An account of the reference in a memory. -/
structure AtR (A : List ABlk) (id sid : Nat) (r v : Int) (L : List (Int × Int)) (cl : Bool) : Prop where
  acc : A[id]? = some (accR r v sid L.length cl)
  vec : A[sid]? = some (.vec (L.map mv) 2)

theorem AtR.lt {A : List ABlk} {id sid : Nat} {r v : Int} {L : List (Int × Int)} {cl : Bool} (h : AtR A id sid r v L cl) : id < A.length ∧ sid < A.length ∧ id ≠ sid := by
  refine ⟨(List.getElem?_eq_some_iff.1 h.acc).1, (List.getElem?_eq_some_iff.1 h.vec).1, fun e => ?_⟩
  have h1 := h.acc
  rw [e, h.vec] at h1
  simp [accR] at h1
theorem AtR.app {A : List ABlk} {id sid : Nat} {r v : Int} {L : List (Int × Int)} {cl : Bool} (h : AtR A id sid r v L cl) (X : List ABlk) : AtR (A ++ X) id sid r v L cl :=
  ⟨by rw [get_app_lt h.lt.1]; exact h.acc, by rw [get_app_lt h.lt.2.1]; exact h.vec⟩

theorem d33 (n : Int) (m : AMem) (k : Nat) : den Try.prog cfg0 (k+1) (.call 33 [I n]) m = some (B (inR n 0 10000), m) := by
  rw [den_call Try.func33 rfl]
  unfold inR
  by_cases h1 : 0 ≤ n <;> by_cases h2 : n ≤ 10000 <;>
  simp [Try.f33, h1, h2]
@[simp] theorem p33 (n : Int) (m : AMem) (k : Nat) : pcall (den Try.prog cfg0 (k+1)) 33 [I n] m = some (B (inR n 0 10000)) := by
  rw [pcall_of (d33 n _ k), conv_v]
theorem d34 (n : Int) (m : AMem) (k : Nat) : den Try.prog cfg0 (k+1) (.call 34 [I n]) m = some (B (inR n 0 100000), m) := by
  rw [den_call Try.func34 rfl]
  unfold inR
  by_cases h1 : 0 ≤ n <;> by_cases h2 : n ≤ 100000 <;>
  simp [Try.f34, h1, h2]
@[simp] theorem p34 (n : Int) (m : AMem) (k : Nat) : pcall (den Try.prog cfg0 (k+1)) 34 [I n] m = some (B (inR n 0 100000)) := by
  rw [pcall_of (d34 n _ k), conv_v]

/-- An account that is opened. -/
theorem d16 (r v d u : Int) (m : AMem) (k : Nat) (hro : m.ro ≤ m.blks.length) :
    den Try.prog cfg0 (k+3) (.call 16 [I r, I v, I d, I u]) m = if okNew r v d u then some (.tup [.ref m.blks.length 0 0, I 0], { m with blks := m.blks ++ [accR r v (m.blks.length + 1) 1 false, .vec [mv (d, u)] 2] }) else some (.tup [nilP, I 1], m) := by
  rw [den_call Try.func16 rfl]
  unfold okNew
  cases h1 : inR r 0 10000
  · simp -implicitDefEqProofs [Try.f16, h1]
  cases h2 : inR v 0 10000
  · simp -implicitDefEqProofs [Try.f16, h1, h2]
  cases h3 : inR d 0 100000
  · simp -implicitDefEqProofs [Try.f16, h1, h2, h3]
  by_cases h4 : u < 0
  · have h4' : inR u 0 1000000000000 = false := by simp [inR]; omega
    simp -implicitDefEqProofs [Try.f16, h1, h2, h3, h4, h4']
  by_cases h5 : 1000000000000 < u
  · have h4' : inR u 0 1000000000000 = false := by simp [inR]; omega
    simp -implicitDefEqProofs [Try.f16, h1, h2, h3, h4, h5, h4']
  have h4' : inR u 0 1000000000000 = true := by simp [inR]; omega
  simp -implicitDefEqProofs [Try.f16, h1, h2, h3, h4, h5, h4', hro, accR, mv]

theorem p39 (id sid : Nat) (m : AMem) (k : Nat) (r v : Int) (L : List (Int × Int)) (cl : Bool) (h : AtR m.blks id sid r v L cl) (hn : L.length ≤ 1000000) (hL : L ≠ []) :
    pcall (den Try.prog cfg0 (k+1)) 39 [.ref id 0 0] m = some (I (lastDay L)) := by
  refine pcall_v ?_
  rw [den_call Try.func39 rfl]
  have h1 := h.acc
  have h2 := h.vec
  have hpos : 0 < L.length := by cases L <;> simp at hL ⊢
  have hw : IntKind.i64.wrap ((L.length : Int) - 1) = ((L.length - 1 : Nat) : Int) := by rw [wrap_fit (by omega) (by omega)]; omega
  have hlt : L.length - 1 < L.length := by omega
  have hlt' : (((L.length - 1 : Nat) : Int)) < L.length := by omega
  obtain ⟨p, hp⟩ : ∃ p, L[L.length - 1]? = some p := ⟨_, List.getElem?_eq_getElem hlt⟩
  have hd : lastDay L = p.1 := by
    rw [List.getElem?_eq_getElem hlt] at hp
    cases hp
    unfold lastDay
    rw [List.getLastD_eq_getLast?, List.getLast?_eq_getElem?, List.getElem?_eq_getElem hlt]
    rfl
  simp -implicitDefEqProofs [Try.f39, h1, h2, accR, hw, hlt', hp, mv, hd, quietAcc]

theorem loop38 (id sid : Nat) (r v : Int) (L : List (Int × Int)) (cl : Bool) (A : List ABlk) (nx ro : Nat) (lv : List Nat) (k : Nat) (hL : L.length ≤ 1000000) (hA : AtR A id sid r v L cl) : ∀ (R : List (Int × Int)) (n i : Nat) (b : Int) (s : List AV), slen s = 25 →
    s[0]? = some (.ref id 0 0) → s[3]? = some (I b) → s[4]? = some (I i) → R.length < n → L.drop i = R →
    EndM (loopN [] (exec Try.prog cfg0 (den Try.prog cfg0 k) k 38 none [] (loopOf Try.f38 0)) n ⟨s, ⟨A, nx, lv, ro⟩, []⟩) (.exit 0) ⟨A, nx, lv, ro⟩ 25 [(3, I (sumP b R))] := by
  have h1 := hA.acc
  have h2 := hA.vec
  intro R
  induction R with
  | nil =>
    intro n i b s hs g0 g3 g4 hn hR
    obtain ⟨n, rfl⟩ : ∃ n', n = n' + 1 := ⟨n - 1, by omega⟩
    have hi : ¬ ((i : Int) < L.length) := by
      have := congrArg List.length hR
      simp at this
      omega
    simp -implicitDefEqProofs [loopOf, loopsOf, codeOf, Try.f38, hi, g0, g3, g4, hs, sumP, h1, h2, accR]
    exact ⟨_, rfl, by simp [hs], by simp [g0, g3, g4, hs, sumP]⟩
  | cons p R ih =>
    intro n i b s hs g0 g3 g4 hn hR
    obtain ⟨n, rfl⟩ : ∃ n', n = n' + 1 := ⟨n - 1, by simp at hn; omega⟩
    have hi : i < L.length := by
      have := congrArg List.length hR
      simp at this
      omega
    have hi' : (i : Int) < L.length := by omega
    have hp : L[i]? = some p := by
      have := congrArg (fun l => l[0]?) hR
      simpa using this
    have hw : IntKind.i64.wrap ((i : Int) + 1) = ((i + 1 : Nat) : Int) := by rw [wrap_fit (by omega) (by omega)]; rfl
    simp -implicitDefEqProofs [loopOf, loopsOf, codeOf, Try.f38, hi', g0, g3, g4, hs, h1, h2, accR, hp, mv, hw]
    exact ih n (i + 1) _ _ (by simp [hs]) (by simp [g0]) (by simp [hs]) (by simp [hs]) (by simp at hn; omega) (by rw [← List.drop_drop, hR]; rfl)

theorem p38 (id sid : Nat) (m : AMem) (k : Nat) (r v : Int) (L : List (Int × Int)) (cl : Bool) (h : AtR m.blks id sid r v L cl) (hn : L.length ≤ 1000000) (hk : L.length < k) :
    pcall (den Try.prog cfg0 (k+1)) 38 [.ref id 0 0] m = some (I (sumP 0 L)) := by
  refine pcall_v ?_
  rw [den_call Try.func38 rfl]
  simp -implicitDefEqProofs [-loopN_succ, Try.f38]
  generalize hx : loopN _ _ _ _ = x
  have hE : EndM x (.exit 0) ⟨m.blks, m.next, [], m.blks.length⟩ 25 [(3, I (sumP 0 L))] := by
    rw [← hx]
    have hl := loop38 id sid r v L cl m.blks m.next m.blks.length [] k hn h L k 0 0
    simp -implicitDefEqProofs [-loopN_succ, loopOf, loopsOf, codeOf, Try.f38] at hl
    exact hl _ rfl rfl rfl rfl hk
  obtain ⟨s', rfl, hs, hkp⟩ := hE
  have k3 : s'[3]? = some (I (sumP 0 L)) := hkp (3, _) (by simp)
  simp -implicitDefEqProofs [k3, hs]

/-- The balance on a day. -/
def onP (day b : Int) (L : List (Int × Int)) : Int := L.foldl (fun b p => if p.1 ≤ day then IntKind.i64.wrap (b + p.2) else b) b

theorem loop40 (id sid : Nat) (r v : Int) (L : List (Int × Int)) (cl : Bool) (A : List ABlk) (nx ro : Nat) (lv : List Nat) (k : Nat) (day : Int) (hL : L.length ≤ 1000000) (hA : AtR A id sid r v L cl) : ∀ (R : List (Int × Int)) (n i : Nat) (b : Int) (s : List AV), slen s = 37 →
    s[0]? = some (.ref id 0 0) → s[1]? = some (I day) → s[5]? = some (I b) → s[6]? = some (I i) → R.length < n → L.drop i = R →
    EndM (loopN [] (exec Try.prog cfg0 (den Try.prog cfg0 k) k 40 none [] (loopOf Try.f40 0)) n ⟨s, ⟨A, nx, lv, ro⟩, []⟩) (.exit 0) ⟨A, nx, lv, ro⟩ 37 [(5, I (onP day b R))] := by
  have h1 := hA.acc
  have h2 := hA.vec
  intro R
  induction R with
  | nil =>
    intro n i b s hs g0 g1 g3 g4 hn hR
    obtain ⟨n, rfl⟩ : ∃ n', n = n' + 1 := ⟨n - 1, by omega⟩
    have hi : ¬ ((i : Int) < L.length) := by
      have := congrArg List.length hR
      simp at this
      omega
    simp -implicitDefEqProofs [loopOf, loopsOf, codeOf, Try.f40, hi, g0, g1, g3, g4, hs, onP, h1, h2, accR]
    exact ⟨_, rfl, by simp [hs], by simp [g0, g3, g4, hs, onP]⟩
  | cons p R ih =>
    intro n i b s hs g0 g1 g3 g4 hn hR
    obtain ⟨n, rfl⟩ : ∃ n', n = n' + 1 := ⟨n - 1, by simp at hn; omega⟩
    have hi : i < L.length := by
      have := congrArg List.length hR
      simp at this
      omega
    have hi' : (i : Int) < L.length := by omega
    have hp : L[i]? = some p := by
      have := congrArg (fun l => l[0]?) hR
      simpa using this
    have hw : IntKind.i64.wrap ((i : Int) + 1) = ((i + 1 : Nat) : Int) := by rw [wrap_fit (by omega) (by omega)]; rfl
    have e : onP day b (p :: R) = onP day (if p.1 ≤ day then IntKind.i64.wrap (b + p.2) else b) R := rfl
    rw [e]
    by_cases hd : p.1 ≤ day
    · simp -implicitDefEqProofs [loopOf, loopsOf, codeOf, Try.f40, hi', g0, g1, g3, g4, hs, h1, h2, accR, hp, mv, hw, hd]
      exact ih n (i + 1) _ _ (by simp [hs]) (by simp [g0]) (by simp [g1]) (by simp [hs]) (by simp [hs]) (by simp at hn; omega) (by rw [← List.drop_drop, hR]; rfl)
    · simp -implicitDefEqProofs [loopOf, loopsOf, codeOf, Try.f40, hi', g0, g1, g3, g4, hs, h1, h2, accR, hp, mv, hw, hd]
      exact ih n (i + 1) _ _ (by simp [hs]) (by simp [g0]) (by simp [g1]) (by simp [hs, g3]) (by simp [hs]) (by simp at hn; omega) (by rw [← List.drop_drop, hR]; rfl)

theorem p40 (id sid : Nat) (m : AMem) (k : Nat) (r v day : Int) (L : List (Int × Int)) (cl : Bool) (h : AtR m.blks id sid r v L cl) (hn : L.length ≤ 1000000) (hk : L.length < k) :
    pcall (den Try.prog cfg0 (k+1)) 40 [.ref id 0 0, I day] m = some (I (onP day 0 L)) := by
  refine pcall_v ?_
  rw [den_call Try.func40 rfl]
  simp -implicitDefEqProofs [-loopN_succ, Try.f40]
  generalize hx : loopN _ _ _ _ = x
  have hE : EndM x (.exit 0) ⟨m.blks, m.next, [], m.blks.length⟩ 37 [(5, I (onP day 0 L))] := by
    rw [← hx]
    have hl := loop40 id sid r v L cl m.blks m.next m.blks.length [] k day hn h L k 0 0
    simp -implicitDefEqProofs [-loopN_succ, loopOf, loopsOf, codeOf, Try.f40] at hl
    exact hl _ rfl rfl rfl rfl rfl hk
  obtain ⟨s', rfl, hs, hkp⟩ := hE
  have k3 : s'[5]? = some (I (onP day 0 L)) := hkp (5, _) (by simp)
  simp -implicitDefEqProofs [k3, hs]

theorem p18 (id sid : Nat) (m : AMem) (k : Nat) (r v : Int) (L : List (Int × Int)) (cl : Bool) (h : AtR m.blks id sid r v L cl) (hn : L.length ≤ 1000000) (hk : L.length < k) :
    pcall (den Try.prog cfg0 (k+2)) 18 [.ref id 0 0] m = some (I (if cl then 0 else sumP 0 L)) := by
  refine pcall_v ?_
  rw [den_call Try.func18 rfl]
  have h1 := h.acc
  have h38 := fun nx lv ro => p38 id sid ⟨m.blks, nx, lv, ro⟩ k r v L cl h hn hk
  cases cl <;> simp -implicitDefEqProofs [Try.f18, h1, accR, h38]
end Go.Den
