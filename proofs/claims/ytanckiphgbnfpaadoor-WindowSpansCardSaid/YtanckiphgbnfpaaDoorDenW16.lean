/-
  Local times. Conditions: as each statement says.
-/
import Derived.Test.YtanckiphgbnfpaaDoorDenW14
namespace Go.Den
open Go.Proofs
set_option linter.unusedSimpArgs false
set_option linter.unusedVariables false

/-- A round of Local. -/
def fL (t : Int) (_ : Option Int) (a o e : Int) : Option Int × Bool := if t ≤ e then (some o, false) else (none, true)
def offL (t : Int) (s : Option Int) : Int := match s with | some o => w64 (t + o) | none => t

noncomputable def tmps21 (n : Nat) (Z : List (Int × Int)) (c : Cap) (t : Int) : List AV :=
  [AV.agg [AV.sl 2 (List.map shv Z) c], I t, AV.ref n 0 0, AV.ref (n + 1) 0 0, AV.v (Value.int IntKind.i64 0), AV.v (Value.int IntKind.i64 0), AV.v (Value.int IntKind.i64 0), AV.ref (n + 2) 0 0, AV.v undef, AV.v undef, AV.v undef, AV.agg [AV.sl 2 (List.map shv Z) c], B true, AV.v (Value.bool false), AV.v (Value.bool false), I t, B true, AV.v (Value.bool false), AV.v (Value.bool false), I t, AV.agg [AV.sl 2 (List.map shv Z) c], AV.fn (Fn.func 47) [] [AV.ref (n + 3) 0 0], AV.v undef, AV.v undef, AV.v undef, AV.v undef, AV.v undef, AV.v undef, AV.v undef, AV.v undef, AV.v undef, AV.v undef, AV.v undef, AV.v undef, AV.v undef, AV.v undef, AV.v undef, AV.v undef, AV.v undef, AV.v undef, AV.v undef, AV.v undef, AV.v undef, AV.v undef]
noncomputable def pre21 (n : Nat) (Z : List (Int × Int)) (c : Cap) (t : Int) (s : Option Int) : List ABlk :=
  [.arr [.agg [.sl 2 (Z.map shv) c]] 1, .arr [I t] 1, .arr [I (offL t s)] 1, .arr [.agg [.sl 2 (Z.map shv) c]] 1, .dfd, .loop { state := if s.isSome then .done else .ready, pending := if s.isSome then some (.exit 0) else none, fn := 21, tmps := tmps21 n Z c t, params := #[22], assign := (rangeOf Tryd.f21 0).1, body := (rangeOf Tryd.f21 0).2 }]

theorem round21 (A : List ABlk) (nx : Nat) (lv : List Nat) (k : Nat) (Z : List (Int × Int)) (c : Cap) (hc : convCap nx c = c) (t0 a o e : Int) (t : List ABlk) (ht : Junk t) :
    den Tryd.prog cfg1 (k+1) (.round (A.length + 5) [.agg [I a, I o, I e]]) ⟨A ++ pre21 A.length Z c t0 none ++ t, nx, lv, A.length⟩ = some (B (fL t0 none a o e).2, ⟨A ++ pre21 A.length Z c t0 (fL t0 none a o e).1 ++ t, nx, lv, A.length⟩) := by
  rw [den_round]
  have hm := conv_shv
  unfold fL
  by_cases h2 : t0 ≤ e <;> simp [stepRound, pre21, tmps21, rangeOf, rangesOf, codeOf, Tryd.f21, setParams, isNormal, endOf, ht.conv, hc, h2, hm, offL]

theorem walk_off (t : Int) (h : t ≤ 144001439) : ∀ (R : List (Int × Int)) (a o : Int), walkS (fL t) none ((a, o) :: R) = some (offAt ((a, o) :: R) t)
  | [], a, o => by
    have he : endOfS [] = 144001439 := rfl
    rw [walkS, offAt]
    simp [fL, he, h]
  | (a', o') :: R, a, o => by
    have ih := walk_off t h R a' o'
    rw [walkS, offAt]
    by_cases c : t ≤ endOfS ((a', o') :: R)
    · simp [fL, c]
    · simp only [fL, if_neg c, cond_true]
      exact ih
theorem off_bound {t : Int} : ∀ {R : List (Int × Int)} {i : Nat} {last : Int}, vZ i last R = true → -840 ≤ offAt R t ∧ offAt R t ≤ 840
  | [], _, _, _ => by simp [offAt]
  | (a, o) :: R, i, last, h => by
    obtain ⟨_, _, h3, h4⟩ := vZ_cons h
    rw [offAt]
    split
    · exact h3
    · exact off_bound h4
theorem valid_vZ {Z : List (Int × Int)} (hv : valid Z = true) : vZ 0 (-1) Z = true := by
  unfold valid at hv
  simp only [Bool.and_eq_true] at hv
  exact hv.2

def minL (x : Int) : Int := if x.tmod 1440 < 0 then IntKind.i64.wrap (x.tmod 1440 + 1440) else x.tmod 1440
theorem tdiv_facts (x : Int) : (x.tmod 1440 < 0 → x.tdiv 1440 - 1 = x / 1440) ∧ (¬ x.tmod 1440 < 0 → x.tdiv 1440 = x / 1440) := by
  by_cases h : 0 ≤ x
  · rw [Int.tdiv_eq_ediv_of_nonneg h, Int.tmod_eq_emod_of_nonneg h]
    omega
  · obtain ⟨y, rfl⟩ : ∃ y, x = -y := ⟨-x, by omega⟩
    have hy : 0 ≤ y := by omega
    rw [Int.neg_tdiv, Int.neg_tmod, Int.tdiv_eq_ediv_of_nonneg hy, Int.tmod_eq_emod_of_nonneg hy]
    omega

theorem d21x (Z : List (Int × Int)) (c : Cap) (t : Int) (m : AMem) (k : Nat) (hro : m.ro = m.blks.length) (hZ : Z.length ≤ 1000000) (hk : Z.length < k) (hc : ∀ nx, convCap nx c = c) (hv : valid Z = true) (hd : inR t 0 144001439 = true) :
    ∃ m', den Tryd.prog cfg1 (k+3) (.call 21 [.agg [.sl 2 (Z.map shv) c], I t]) m = some (.tup [I ((t + offAt Z t) / 1440), I (minL (t + offAt Z t)), I 0], m') := by
  rw [den_call Tryd.func21 rfl]
  have hV := fun m => p23 (a := .sl 2 (Z.map shv) c) (Z := Z) (.inr ⟨c, hc, rfl⟩) m k hZ hk
  have ht := inR_iff.1 hd
  have hwalk : walkS (fL t) none Z = some (offAt Z t) := by
    obtain ⟨o, Z', rfl, _, _⟩ := valid_cons hv
    exact walk_off t ht.2 Z' 0 o
  obtain ⟨j, hj, h47⟩ := d47 (pre := fun s => m.blks ++ pre21 m.blks.length Z c t s) (f := fL t) (k + 1) (m.blks.length + 6) (m.blks.length + 5) m.next m.blks.length (m.blks.length + 3) m.live Z c
    (by intro s; simp [pre21]) (by omega) hZ (by omega) (by omega) (by intro s; simp [pre21]) (fun s => s = none) (by
      intro s a o e hs hf
      unfold fL at hf ⊢
      by_cases h2 : t ≤ e
      · rw [if_pos h2] at hf; cases hf
      · rw [if_neg h2]) none rfl
    (fun s t' a o e hs ht => by subst hs; exact round21 m.blks m.next m.live k _ c (hc _) t a o e t' ht)
  rw [hwalk] at h47
  have hb := off_bound (t := t) (valid_vZ hv)
  have hm := conv_shv
  simp [pre21, tmps21, rangeOf, rangesOf, codeOf, Tryd.f21, offL] at h47
  generalize hO : offAt Z t = O at h47 hb ⊢
  have hw : w64 (t + O) = t + O := wrap_fit (by omega) (by omega)
  rw [hw] at h47
  obtain ⟨f1, f2⟩ := tdiv_facts (t + O)
  have h16 : ∀ n : Nat, n + 1 + 5 = n + 6 := fun n => rfl
  by_cases neg : (t + O).tmod 1440 < 0
  · have f1' := f1 neg
    have e1 : IntKind.i64.wrap ((t + O).tdiv 1440) = (t + O).tdiv 1440 := wrap_fit (by omega) (by omega)
    have e2 : IntKind.i64.wrap ((t + O).tdiv 1440 - 1) = (t + O) / 1440 := by rw [wrap_fit (by omega) (by omega)]; omega
    have e3 : minL (t + O) = IntKind.i64.wrap ((t + O).tmod 1440 + 1440) := if_pos neg
    rw [e3]
    simp -implicitDefEqProofs [Tryd.f21, hV, hv, hro, hd, d38, exRange, layLoop, get_app_len, h47, afterRange, exitOf, hc, hm, h16, quietAcc, neg, e1, e2]
  · have f2' := f2 neg
    have e1 : IntKind.i64.wrap ((t + O).tdiv 1440) = (t + O) / 1440 := by rw [wrap_fit (by omega) (by omega)]; omega
    have e3 : minL (t + O) = (t + O).tmod 1440 := if_neg neg
    rw [e3]
    simp -implicitDefEqProofs [Tryd.f21, hV, hv, hro, hd, d38, exRange, layLoop, get_app_len, h47, afterRange, exitOf, hc, hm, h16, quietAcc, neg, e1]

def locE (Z : List (Int × Int)) (t : Int) : Int := if valid Z = true ∧ inR t 0 144001439 = true then 0 else 1
def locV (Z : List (Int × Int)) (t : Int) : Int := if locE Z t = 0 then (t + offAt Z t) / 1440 else 0
def locM (Z : List (Int × Int)) (t : Int) : Int := if locE Z t = 0 then minL (t + offAt Z t) else 0
theorem p21 {a : AV} {Z : List (Int × Int)} (h : ShL a Z) (t : Int) (m : AMem) (k : Nat) (hZ : Z.length ≤ 1000000) (hk : Z.length < k) : pcall (den Tryd.prog cfg1 (k+3)) 21 [.agg [a], I t] m = some (.tup [I (locV Z t), I (locM Z t), I (locE Z t)]) := by
  have hV := fun m => p23 h m k hZ hk
  have key : ∃ m', den Tryd.prog cfg1 (k+3) (.call 21 [.agg [a], I t]) { m with ro := m.blks.length, live := [] } = some (.tup [I (locV Z t), I (locM Z t), I (locE Z t)], m') := by
    cases hv : valid Z
    · rw [den_call Tryd.func21 rfl]
      simp -implicitDefEqProofs [Tryd.f21, hV, hv, locV, locM, locE, get_app_len]
    cases hd : inR t 0 144001439
    · rw [den_call Tryd.func21 rfl]
      simp -implicitDefEqProofs [Tryd.f21, hV, hv, hd, locV, locM, locE, get_app_len]
    rcases h with ⟨rfl, rfl⟩ | ⟨c, hcv, rfl⟩
    · simp [valid] at hv
    · obtain ⟨m', h⟩ := d21x Z c t { m with ro := m.blks.length, live := [] } k rfl hZ hk hcv hv hd
      refine ⟨m', ?_⟩
      rw [h]
      simp [locV, locM, locE, hv, hd]
  obtain ⟨m', key⟩ := key
  rw [pcall_of key]
  simp

/-- Whether the local time has reached a day. -/
def rchB (Z : List (Int × Int)) (t day : Int) : Bool := decide (locE Z t = 0) && decide (day ≤ locV Z t)
theorem p20 {a : AV} {Z : List (Int × Int)} (h : ShL a Z) (t day : Int) (m : AMem) (k : Nat) (hZ : Z.length ≤ 1000000) (hk : Z.length < k) : pcall (den Tryd.prog cfg1 (k+4)) 20 [.agg [a], I t, I day] m = some (B (rchB Z t day)) := by
  have h21 := fun m => p21 h t m k hZ hk
  refine pcall_v ?_
  rw [den_call Tryd.func20 rfl]
  unfold rchB
  by_cases c1 : locE Z t = 0
  · by_cases c2 : day ≤ locV Z t <;> simp -implicitDefEqProofs [Tryd.f20, h21, get_app_len, c1, c2]
  · simp -implicitDefEqProofs [Tryd.f20, h21, get_app_len, c1]
theorem rch_iff {Z : List (Int × Int)} {t day : Int} : rchB Z t day = true ↔ valid Z = true ∧ (0 ≤ t ∧ t ≤ 144001439) ∧ day * 1440 ≤ t + offAt Z t := by
  unfold rchB
  rw [Bool.and_eq_true, decide_eq_true_eq, decide_eq_true_eq]
  by_cases c : valid Z = true ∧ inR t 0 144001439 = true
  · have e : locE Z t = 0 := if_pos c
    have v : locV Z t = (t + offAt Z t) / 1440 := if_pos e
    rw [e, v]
    have := inR_iff.1 c.2
    have h1 := c.1
    constructor
    · rintro ⟨_, h⟩; exact ⟨h1, this, by omega⟩
    · rintro ⟨_, _, h⟩; exact ⟨rfl, by omega⟩
  · have e : locE Z t = 1 := if_neg c
    rw [e]
    constructor
    · rintro ⟨h, _⟩; omega
    · rintro ⟨h1, h2, _⟩; exact absurd ⟨h1, inR_iff.2 h2⟩ c
end Go.Den
