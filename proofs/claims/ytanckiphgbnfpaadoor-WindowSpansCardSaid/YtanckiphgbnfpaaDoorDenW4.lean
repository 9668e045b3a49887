/-
  Zones: the reference's Valid. Conditions: as each statement says.
-/
import Derived.Test.YtanckiphgbnfpaaDoorDenW3
namespace Go.Den
open Go.Proofs
set_option linter.unusedSimpArgs false
set_option linter.unusedVariables false

set_option maxHeartbeats 8000000 in
theorem loop25 (Z : List (Int × Int)) (c : Cap) (A : List ABlk) (nx ro bx : Nat) (lv : List Nat) (hro : ro ≤ A.length) (k : Nat) (hZ : Z.length ≤ 1000000) (hbx : bx < A.length) (hA : A[bx]? = some (.arr [.agg [.sl 2 (Z.map shv) c]] 1)) : ∀ (R : List (Int × Int)) (n i : Nat) (last : Int) (J : List ABlk) (s : List AV), slen s = 64 → s[1]? = some (.ref bx 0 0) → s[2]? = some (B false) → s[3]? = some (I i) →
    (i = 0 → last = -1 ∧ ∀ p, R.head? = some p → p.1 = 0) → (0 < i → ∃ o, Z[i - 1]? = some (last, o)) → -1 ≤ last → R.length < n → Z.drop i = R →
    End (loopN [] (exec Tryd.prog cfg1 (den Tryd.prog cfg1 (k+1)) (k+1) 25 none [] (loopOf Tryd.f25 0)) n ⟨s, ⟨A ++ J, nx, lv, ro⟩, []⟩) (vZ i last R) A nx lv ro 64 [(1, .ref bx 0 0), (2, B false)] := by
  intro R
  have hX : ∀ X : List ABlk, (A ++ X)[bx]? = some (.arr [.agg [.sl 2 (Z.map shv) c]] 1) := fun X => by rw [get_app_lt hbx]; exact hA
  have hrk : ∀ j, ro ≤ A.length + j := fun j => by omega
  induction R with
  | nil =>
    intro n i last J s hs h1 h2 h3 hz hl hm hn hR
    obtain ⟨n, rfl⟩ : ∃ n', n = n' + 1 := ⟨n - 1, by omega⟩
    have hi : ¬ ((i : Int) < Z.length) := by
      have := congrArg List.length hR
      simp at this
      omega
    simp -implicitDefEqProofs [loopOf, loopsOf, codeOf, Tryd.f25, hi, h1, h3, hX, hs]
    exact ⟨_, _, rfl, by simp [hs], by simp [h1, h2]⟩
  | cons p R ih =>
    intro n i last J s hs h1 h2 h3 hz hl hm hn hR
    obtain ⟨n, rfl⟩ : ∃ n', n = n' + 1 := ⟨n - 1, by simp at hn; omega⟩
    have hi : i < Z.length := by
      have := congrArg List.length hR
      simp at this
      omega
    have hi' : (i : Int) < Z.length := by omega
    have hp : Z[i]? = some p := by
      have := congrArg (fun l => l[0]?) hR
      simpa using this
    have hw : IntKind.i64.wrap ((i : Int) + 1) = ((i + 1 : Nat) : Int) := by rw [wrap_fit (by omega) (by omega)]; rfl
    obtain ⟨f, o⟩ := p
    unfold vZ
    by_cases c1 : (0 : Int) < i
    · have c1' : 0 < i := by omega
      obtain ⟨o', hq⟩ := hl c1'
      have hw2 : IntKind.i64.wrap ((i : Int) - 1) = ((i - 1 : Nat) : Int) := by rw [wrap_fit (by omega) (by omega)]; omega
      by_cases c2 : f ≤ last
      case pos =>
        have c2' : ¬ last < f := by omega
        simp -implicitDefEqProofs [loopOf, loopsOf, codeOf, Tryd.f25, hi', h1, h2, h3, hX, hs, hp, shv, get_app_len, get_app_add, hrk, quietAcc, c1, c1', hw2, hq, c2, c2']
        exact ⟨_, _, rfl, by simp [hs], by simp [h1, h2, hs]⟩
      have c2' : last < f := by omega
      by_cases c3 : 144001439 < f
      case pos =>
        have c4 : inR f 0 144001439 = false := by simp [inR]; try omega
        simp -implicitDefEqProofs [loopOf, loopsOf, codeOf, Tryd.f25, hi', h1, h2, h3, hX, hs, hp, shv, get_app_len, get_app_add, hrk, quietAcc, c1, c1', hw2, hq, c2, c2', c3, c4]
        exact ⟨_, _, rfl, by simp [hs], by simp [h1, h2, hs]⟩
      have c4 : inR f 0 144001439 = true := by simp [inR]; try omega
      by_cases c5 : o < -840
      case pos =>
        have c6 : inR o (-840) 840 = false := by simp [inR]; omega
        simp -implicitDefEqProofs [loopOf, loopsOf, codeOf, Tryd.f25, hi', h1, h2, h3, hX, hs, hp, shv, get_app_len, get_app_add, hrk, quietAcc, c1, c1', hw2, hq, c2, c2', c3, c4, c5, c6]
        exact ⟨_, _, rfl, by simp [hs], by simp [h1, h2, hs]⟩
      by_cases c7 : 840 < o
      case pos =>
        have c6 : inR o (-840) 840 = false := by simp [inR]; omega
        simp -implicitDefEqProofs [loopOf, loopsOf, codeOf, Tryd.f25, hi', h1, h2, h3, hX, hs, hp, shv, get_app_len, get_app_add, hrk, quietAcc, c1, c1', hw2, hq, c2, c2', c3, c4, c5, c7, c6]
        exact ⟨_, _, rfl, by simp [hs], by simp [h1, h2, hs]⟩
      have c6 : inR o (-840) 840 = true := by simp [inR]; omega
      simp -implicitDefEqProofs [loopOf, loopsOf, codeOf, Tryd.f25, hi', h1, h2, h3, hX, hs, hp, shv, get_app_len, get_app_add, hrk, quietAcc, hw, c1, c1', hw2, hq, c2, c2', c3, c4, c5, c6, c7]
      exact ih n (i + 1) f _ _ (by simp [hs]) (by simp [h1]) (by simp [h2]) (by simp [hs]) (by omega) (fun _ => ⟨o, by simpa using hp⟩) (by omega) (by simp at hn; omega) (by rw [← List.drop_drop, hR]; rfl)
    · have c1' : ¬ 0 < i := by omega
      obtain ⟨rfl, hz2⟩ := hz (by omega)
      have c0 : f = 0 := hz2 (f, o) rfl
      subst c0
      have c3 : ¬ (144001439 : Int) < 0 := by omega
      have c4 : inR 0 0 144001439 = true := rfl
      by_cases c5 : o < -840
      case pos =>
        have c6 : inR o (-840) 840 = false := by simp [inR]; omega
        simp -implicitDefEqProofs [loopOf, loopsOf, codeOf, Tryd.f25, hi', h1, h2, h3, hX, hs, hp, shv, get_app_len, get_app_add, hrk, quietAcc, c1, c1', c3, c4, c5, c6]
        exact ⟨_, _, rfl, by simp [hs], by simp [h1, h2, hs]⟩
      by_cases c7 : 840 < o
      case pos =>
        have c6 : inR o (-840) 840 = false := by simp [inR]; omega
        simp -implicitDefEqProofs [loopOf, loopsOf, codeOf, Tryd.f25, hi', h1, h2, h3, hX, hs, hp, shv, get_app_len, get_app_add, hrk, quietAcc, c1, c1', c3, c4, c5, c7, c6]
        exact ⟨_, _, rfl, by simp [hs], by simp [h1, h2, hs]⟩
      have c6 : inR o (-840) 840 = true := by simp [inR]; omega
      simp -implicitDefEqProofs [loopOf, loopsOf, codeOf, Tryd.f25, hi', h1, h2, h3, hX, hs, hp, shv, get_app_len, get_app_add, hrk, quietAcc, hw, c1, c1', c3, c4, c5, c6, c7]
      exact ih n (i + 1) 0 _ _ (by simp [hs]) (by simp [h1]) (by simp [h2]) (by simp [hs]) (by omega) (fun _ => ⟨o, by simpa using hp⟩) (by omega) (by simp at hn; omega) (by rw [← List.drop_drop, hR]; rfl)

theorem p25 {a : AV} {Z : List (Int × Int)} (h : ShL a Z) (m : AMem) (k : Nat) (hZ : Z.length ≤ 1000000) (hk : Z.length < k) : pcall (den Tryd.prog cfg1 (k+2)) 25 [.agg [a]] m = some (B (valid Z)) := by
  refine pcall_v ?_
  rw [den_call Tryd.func25 rfl]
  rcases h with ⟨rfl, rfl⟩ | ⟨c, hcv, rfl⟩
  · simp -implicitDefEqProofs [Tryd.f25, valid]
  unfold valid
  by_cases z0 : 0 < Z.length
  case neg =>
    have z0' : (Z.length : Int) < 1 := by omega
    simp -implicitDefEqProofs [Tryd.f25, z0, z0']
  have z0' : ¬ (Z.length : Int) < 1 := by omega
  by_cases z1 : Z.length ≤ 20
  case neg =>
    have z1' : 20 < (Z.length : Int) := by omega
    simp -implicitDefEqProofs [Tryd.f25, z0, z0', z1, z1']
  have z1' : ¬ 20 < (Z.length : Int) := by omega
  obtain ⟨p, Z', rfl⟩ : ∃ p Z', Z = p :: Z' := by cases Z with | nil => simp at z0 | cons p Z' => exact ⟨p, Z', rfl⟩
  by_cases z2 : p.1 = 0
  case neg =>
    have : vZ 0 (-1) (p :: Z') = false := by obtain ⟨f, o⟩ := p; simp [vZ]; intro h; exact absurd h z2
    have y0 : ¬ (Z'.length : Int) + 1 < 1 := by simpa using z0'
    have y1 : ¬ 20 < (Z'.length : Int) + 1 := by simpa using z1'
    simp -implicitDefEqProofs [Tryd.f25, y0, y1, z2, this, shv]
  obtain ⟨f, o⟩ := p
  simp only at z2
  subst z2
  have y0 : ¬ (Z'.length : Int) + 1 < 1 := by simpa using z0'
  have y1 : ¬ 20 < (Z'.length : Int) + 1 := by simpa using z1'
  simp -implicitDefEqProofs [-loopN_succ, Tryd.f25, y0, y1, shv]
  generalize hx : loopN _ _ _ _ = x
  have hE : End x (vZ 0 (-1) ((0, o) :: Z')) (m.blks ++ [.arr [.agg [.sl 2 (((0, o) :: Z').map shv) c]] 1]) m.next [] m.blks.length 64 [(1, .ref m.blks.length 0 0), (2, B false)] := by
    rw [← hx]
    have hl := loop25 ((0, o) :: Z') c (m.blks ++ [.arr [.agg [.sl 2 (((0, o) :: Z').map shv) c]] 1]) m.next m.blks.length m.blks.length [] (by simp) k hZ (by simp) (by simp [get_app_len]) ((0, o) :: Z') (k + 1) 0 (-1) []
    simp -implicitDefEqProofs [-loopN_succ, loopOf, loopsOf, codeOf, Tryd.f25, shv] at hl
    refine hl _ rfl rfl rfl rfl ?_
    simp at hk; omega
  obtain ⟨s', J', rfl, hs, hk⟩ := hE
  have k1 : s'[1]? = some (.ref m.blks.length 0 0) := hk (1, _) (by simp)
  have k2 : s'[2]? = some (B false) := hk (2, _) (by simp)
  have y2 : Z'.length ≤ 19 := by simp at z1; omega
  cases hv : vZ 0 (-1) ((0, o) :: Z') <;> simp -implicitDefEqProofs [k1, k2, hs, y2]
end Go.Den
