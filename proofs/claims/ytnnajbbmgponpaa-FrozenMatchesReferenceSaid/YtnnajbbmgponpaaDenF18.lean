/-
  The balance is kept: the loops. Conditions: as each statement says.
-/
import Derived.Test.YtnnajbbmgponpaaDenP2
namespace Go.Den
open Go.Proofs
set_option linter.unusedSimpArgs false
set_option linter.unusedVariables false

theorem get_app_at {α : Type} {l r : List α} {n : Nat} (h : l.length = n) : (l ++ r)[n]? = r[0]? := by subst h; exact get_app_len l r
theorem get_app_at1 {α : Type} {l r : List α} {n k : Nat} (h : l.length = n) : (l ++ r)[n + k]? = r[k]? := by subst h; exact get_app_add l r k
theorem set_app_at {α : Type} {l r : List α} {n : Nat} {x : α} (h : l.length = n) : (l ++ r).set n x = l ++ r.set 0 x := by subst h; exact set_app_len l r x
theorem set_app_at1 {α : Type} {l r : List α} {n k : Nat} {x : α} (h : l.length = n) : (l ++ r).set (n + k) x = l ++ r.set k x := by subst h; exact set_app_add l r k x

def EndM (x : Option (AExit × St)) (e : AExit) (m : AMem) (n : Nat) (keep : List (Nat × AV)) : Prop := ∃ s', x = some (e, ⟨s', m, []⟩) ∧ slen s' = n ∧ ∀ p ∈ keep, s'[p.1]? = some p.2

def un (p : Int × Int) : AV := I p.2

theorem loopS (L : List (Int × Int)) (A : List ABlk) (nx id : Nat) (lv : List Nat) (k : Nat) (hL : L.length ≤ 1000000) (hA : A[id]? = some (.vec (L.map un) 1)) (to : Int) (up : Bool) (a4 : AV) (i4 : Int) : ∀ (R : List (Int × Int)) (n i : Nat) (b : Int) (s : List AV), slen s = 200 →
    s[4]? = some a4 → s[5]? = some (I to) → s[13]? = some (B up) → s[14]? = some (.ref 0 0 0) → s[16]? = some (.own 1 id 0 L.length) → s[17]? = some (I i4) → s[20]? = some (I b) → s[21]? = some (I i) → R.length < n → L.drop i = R →
    EndM (loopN [] (exec Try.prog cfg0 (den Try.prog cfg0 (k+1)) (k+1) 8 none [] (loopOf Try.f8 1)) n ⟨s, ⟨A, nx, lv, 0⟩, []⟩) (.exit 3) ⟨A, nx, lv, 0⟩ 200 [(4, a4), (5, I to), (13, B up), (14, .ref 0 0 0), (16, .own 1 id 0 L.length), (17, I i4), (20, I (sumP b R))] := by
  intro R
  induction R with
  | nil =>
    intro n i b s hs h4 h5 h13 h14 h16 h17 h20 h21 hn hR
    obtain ⟨n, rfl⟩ : ∃ n', n = n' + 1 := ⟨n - 1, by omega⟩
    have hi : ¬ ((i : Int) < L.length) := by
      have := congrArg List.length hR
      simp at this
      omega
    simp -implicitDefEqProofs [loopOf, loopsOf, codeOf, Try.f8, hi, h4, h5, h13, h14, h16, h17, h20, h21, hs, sumP]
    exact ⟨_, rfl, by simp [hs], by simp [h4, h5, h13, h14, h16, h17, h20, h21, hs, sumP]⟩
  | cons p R ih =>
    intro n i b s hs h4 h5 h13 h14 h16 h17 h20 h21 hn hR
    obtain ⟨n, rfl⟩ : ∃ n', n = n' + 1 := ⟨n - 1, by simp at hn; omega⟩
    have hi : i < L.length := by
      have := congrArg List.length hR
      simp at this
      omega
    have hi' : (i : Int) < L.length := by omega
    have hp : L[i]? = some p := by
      have := congrArg (fun l => l[0]?) hR
      simpa using this
    have hw : IntKind.i64.wrap ((i : Int) + 1) = ((i + 1 : Nat) : Int) := by rw [wrap_fit (by omega) (by omega)]; rfl
    simp -implicitDefEqProofs [loopOf, loopsOf, codeOf, Try.f8, hi', h4, h5, h13, h14, h16, h17, h20, h21, hs, hA, hp, un, hw]
    exact ih n (i + 1) _ _ (by simp [hs]) (by simp [h4]) (by simp [h5]) (by simp [h13]) (by simp [h14]) (by simp [h16]) (by simp [h17]) (by simp [hs]) (by simp [hs]) (by simp at hn; omega) (by rw [← List.drop_drop, hR]; rfl)
end Go.Den
