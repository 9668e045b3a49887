/-
  Zones: the clock's Valid. Conditions: as each statement says.
-/
import Derived.Test.YtanckiphgbnfpaaDoorDenW1
namespace Go.Den
open Go.Proofs
set_option linter.unusedSimpArgs false
set_option linter.unusedVariables false

/-- A shift. -/
def shv (p : Int × Int) : AV := .agg [I p.1, I p.2]
abbrev nilS : AV := .v (.slice none 0 0)
/-- A list of shifts, as a slice. -/
def ShL (a : AV) (Z : List (Int × Int)) : Prop := (a = nilS ∧ Z = []) ∨ ∃ c, (∀ nx, convCap nx c = c) ∧ a = .sl 2 (Z.map shv) c
def vZ : Nat → Int → List (Int × Int) → Bool
  | _, _, [] => true
  | i, last, (f, o) :: Z => (decide (0 < i) || decide (f = 0)) && decide (last < f) && inR f 0 144001439 && inR o (-840) 840 && vZ (i + 1) f Z
def valid (Z : List (Int × Int)) : Bool := decide (0 < Z.length) && decide (Z.length ≤ 20) && vZ 0 (-1) Z

/-- A loop's end: fine, or a return; of the slots some are known. -/
def End (x : Option (AExit × St)) (ok : Bool) (A : List ABlk) (nx : Nat) (lv : List Nat) (ro len : Nat) (known : List (Nat × AV)) : Prop :=
  ∃ s' J', x = some (if ok then .exit 0 else .ret, ⟨s', ⟨A ++ J', nx, lv, ro⟩, []⟩) ∧ slen s' = len ∧ ∀ p ∈ known, s'[p.1]? = some p.2

set_option maxHeartbeats 4000000 in
theorem loop23 (Z : List (Int × Int)) (c : Cap) (A : List ABlk) (nx ro bx : Nat) (lv : List Nat) (hro : ro ≤ A.length) (k : Nat) (hZ : Z.length ≤ 1000000) : ∀ (R : List (Int × Int)) (n i : Nat) (last : Int) (J : List ABlk) (s : List AV), slen s = 59 → s[1]? = some (.ref bx 0 0) → s[2]? = some (B false) → s[3]? = some (I last) → s[8]? = some (.sl 2 (Z.map shv) c) → s[9]? = some (I Z.length) → s[10]? = some (I i) → R.length < n → Z.drop i = R →
    End (loopN [] (exec Tryd.prog cfg1 (den Tryd.prog cfg1 (k+1)) (k+1) 23 none [] (loopOf Tryd.f23 0)) n ⟨s, ⟨A ++ J, nx, lv, ro⟩, []⟩) (vZ i last R) A nx lv ro 59 [(1, .ref bx 0 0), (2, B false)] := by
  intro R
  induction R with
  | nil =>
    intro n i last J s hs h1 h2 h3 h8 h9 h10 hn hR
    obtain ⟨n, rfl⟩ : ∃ n', n = n' + 1 := ⟨n - 1, by omega⟩
    have hi : ¬ ((i : Int) < Z.length) := by
      have := congrArg List.length hR
      simp at this
      omega
    simp -implicitDefEqProofs [loopOf, loopsOf, codeOf, Tryd.f23, hi, h9, h10, hs]
    exact ⟨_, _, rfl, by simp [hs], by simp [h1, h2]⟩
  | cons p R ih =>
    intro n i last J s hs h1 h2 h3 h8 h9 h10 hn hR
    obtain ⟨n, rfl⟩ : ∃ n', n = n' + 1 := ⟨n - 1, by simp at hn; omega⟩
    have hi : i < Z.length := by
      have := congrArg List.length hR
      simp at this
      omega
    have hi' : (i : Int) < Z.length := by omega
    have hp : Z[i]? = some p := by
      have := congrArg (fun l => l[0]?) hR
      simpa using this
    have hw : IntKind.i64.wrap ((i : Int) + 1) = ((i + 1 : Nat) : Int) := by rw [wrap_fit (by omega) (by omega)]; rfl
    have hrk : ∀ j, ro ≤ A.length + j := fun j => by omega
    obtain ⟨f, o⟩ := p
    unfold vZ
    by_cases c1 : (0 : Int) < i
    · have c1' : 0 < i := by omega
      by_cases c2 : last < f
      case neg =>
        have c2' : f ≤ last := by omega
        simp -implicitDefEqProofs [loopOf, loopsOf, codeOf, Tryd.f23, hi', h2, h3, h8, h9, h10, hs, hp, shv, get_app_len, get_app_add, hrk, c1, c1', c2, c2']
        exact ⟨_, _, rfl, by simp [hs], by simp [h1, h2, hs]⟩
      have c2' : ¬ f ≤ last := by omega
      cases c3 : inR f 0 144001439
      case false =>
        simp -implicitDefEqProofs [loopOf, loopsOf, codeOf, Tryd.f23, hi', h2, h3, h8, h9, h10, hs, hp, shv, get_app_len, get_app_add, hrk, c1, c1', c2, c2', c3]
        exact ⟨_, _, rfl, by simp [hs], by simp [h1, h2, hs]⟩
      by_cases c4 : o < -840
      case pos =>
        have c6 : inR o (-840) 840 = false := by simp [inR]; omega
        simp -implicitDefEqProofs [loopOf, loopsOf, codeOf, Tryd.f23, hi', h2, h3, h8, h9, h10, hs, hp, shv, get_app_len, get_app_add, hrk, c1, c1', c2, c2', c3, c4, c6]
        exact ⟨_, _, rfl, by simp [hs], by simp [h1, h2, hs]⟩
      by_cases c5 : 840 < o
      case pos =>
        have c6 : inR o (-840) 840 = false := by simp [inR]; omega
        simp -implicitDefEqProofs [loopOf, loopsOf, codeOf, Tryd.f23, hi', h2, h3, h8, h9, h10, hs, hp, shv, get_app_len, get_app_add, hrk, c1, c1', c2, c2', c3, c4, c5, c6]
        exact ⟨_, _, rfl, by simp [hs], by simp [h1, h2, hs]⟩
      have c6 : inR o (-840) 840 = true := by simp [inR]; omega
      simp -implicitDefEqProofs [loopOf, loopsOf, codeOf, Tryd.f23, hi', h2, h3, h8, h9, h10, hs, hp, shv, get_app_len, get_app_add, hrk, hw, c1, c1', c2, c2', c3, c4, c5, c6]
      refine ih n (i + 1) f _ _ (by simp [hs]) (by simp [h1]) (by simp [h2]) (by simp [hs]) (by simp [h8]) (by simp [h9]) (by simp [hs]) (by simp at hn; omega) (by rw [← List.drop_drop, hR]; rfl)
    · have hi0 : i = 0 := by omega
      have c1' : ¬ 0 < i := by omega
      by_cases c0 : f = 0
      case neg =>
        simp -implicitDefEqProofs [loopOf, loopsOf, codeOf, Tryd.f23, hi', h2, h3, h8, h9, h10, hs, hp, shv, get_app_len, get_app_add, hrk, c1, c1', c0]
        exact ⟨_, _, rfl, by simp [hs], by simp [h1, h2, hs]⟩
      subst c0
      by_cases c2 : last < 0
      case neg =>
        have c2' : 0 ≤ last := by omega
        simp -implicitDefEqProofs [loopOf, loopsOf, codeOf, Tryd.f23, hi', h2, h3, h8, h9, h10, hs, hp, shv, get_app_len, get_app_add, hrk, c1, c1', c2, c2']
        exact ⟨_, _, rfl, by simp [hs], by simp [h1, h2, hs]⟩
      have c2' : ¬ 0 ≤ last := by omega
      cases c3 : inR 0 0 144001439
      case false =>
        simp -implicitDefEqProofs [loopOf, loopsOf, codeOf, Tryd.f23, hi', h2, h3, h8, h9, h10, hs, hp, shv, get_app_len, get_app_add, hrk, c1, c1', c2, c2', c3]
        exact ⟨_, _, rfl, by simp [hs], by simp [h1, h2, hs]⟩
      by_cases c4 : o < -840
      case pos =>
        have c6 : inR o (-840) 840 = false := by simp [inR]; omega
        simp -implicitDefEqProofs [loopOf, loopsOf, codeOf, Tryd.f23, hi', h2, h3, h8, h9, h10, hs, hp, shv, get_app_len, get_app_add, hrk, c1, c1', c2, c2', c3, c4, c6]
        exact ⟨_, _, rfl, by simp [hs], by simp [h1, h2, hs]⟩
      by_cases c5 : 840 < o
      case pos =>
        have c6 : inR o (-840) 840 = false := by simp [inR]; omega
        simp -implicitDefEqProofs [loopOf, loopsOf, codeOf, Tryd.f23, hi', h2, h3, h8, h9, h10, hs, hp, shv, get_app_len, get_app_add, hrk, c1, c1', c2, c2', c3, c4, c5, c6]
        exact ⟨_, _, rfl, by simp [hs], by simp [h1, h2, hs]⟩
      have c6 : inR o (-840) 840 = true := by simp [inR]; omega
      simp -implicitDefEqProofs [loopOf, loopsOf, codeOf, Tryd.f23, hi', h2, h3, h8, h9, h10, hs, hp, shv, get_app_len, get_app_add, hrk, hw, c1, c1', c2, c2', c3, c4, c5, c6]
      refine ih n (i + 1) 0 _ _ (by simp [hs]) (by simp [h1]) (by simp [h2]) (by simp [hs]) (by simp [h8]) (by simp [h9]) (by simp [hs]) (by simp at hn; omega) (by rw [← List.drop_drop, hR]; rfl)
end Go.Den
