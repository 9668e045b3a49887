/-
  The reference's accounts: a correction. Conditions: as each statement says.
-/
import Derived.Test.YtnnajbbmgponpaaDenF22
namespace Go.Den
open Go.Proofs
set_option linter.unusedSimpArgs false
set_option linter.unusedVariables false

/-- The loop's end: through, or out with an error. -/
def EndC (x : Option (AExit × St)) (bad : Bool) (m : AMem) (n : Nat) (keep : List (Nat × AV)) : Prop :=
  ∃ s', x = some (if bad then .ret else .exit 0, ⟨s', m, []⟩) ∧ slen s' = n ∧ (bad = true → s'[6]? = some (I 21)) ∧ ∀ p ∈ keep, s'[p.1]? = some p.2

theorem corL_get (L : List (Int × Int)) (i u : Int) (k : Nat) (q : Int × Int) (h : L[k]? = some q) (h0 : 0 ≤ i) : (corL L i u)[k]? = some (q.1, if (k : Int) = i then u else q.2) := by
  unfold corL
  rw [List.getElem?_set]
  have hk := (List.getElem?_eq_some_iff.1 h).1
  by_cases e : i.toNat = k
  · have e' : (k : Int) = i := by omega
    rw [if_pos e, if_pos (by omega), if_pos e']
    subst e
    rw [List.getD_eq_getElem?_getD, h]; rfl
  · have e' : ¬ (k : Int) = i := by omega
    rw [if_neg e, h, if_neg e']

set_option maxHeartbeats 2000000 in
theorem loop37 (id sid : Nat) (r v i u : Int) (L : List (Int × Int)) (cl : Bool) (A : List ABlk) (nx ro : Nat) (lv : List Nat) (k : Nat) (hL : L.length ≤ 1000000) (hA : AtR A id sid r v L cl) (h0 : 0 ≤ i) : ∀ (R : List (Int × Int)) (n j : Nat) (b : Int) (s : List AV), slen s = 73 →
    s[0]? = some (.ref id 0 0) → s[1]? = some (I i) → s[2]? = some (I u) → s[7]? = some (I b) → s[8]? = some (I j) → R.length < n → (corL L i u).drop j = R →
    EndC (loopN [] (exec Try.prog cfg0 (den Try.prog cfg0 k) k 37 none [] (loopOf Try.f37 0)) n ⟨s, ⟨A, nx, lv, ro⟩, []⟩) (walkP fC false R b) ⟨A, nx, lv, ro⟩ 73 [(0, .ref id 0 0), (1, I i), (2, I u)] := by
  have h1 := hA.acc
  have h2 := hA.vec
  intro R
  induction R with
  | nil =>
    intro n j b s hs g0 g1 g2 g7 g8 hn hR
    obtain ⟨n, rfl⟩ : ∃ n', n = n' + 1 := ⟨n - 1, by omega⟩
    have hi : ¬ ((j : Int) < L.length) := by
      have := congrArg List.length hR
      simp [corL_len] at this
      omega
    simp -implicitDefEqProofs [loopOf, loopsOf, codeOf, Try.f37, hi, g0, g1, g2, g7, g8, hs, walkP, h1, h2, accR]
    exact ⟨_, rfl, by simp [hs], by simp, by simp [g0, g1, g2, hs]⟩
  | cons p R ih =>
    intro n j b s hs g0 g1 g2 g7 g8 hn hR
    obtain ⟨n, rfl⟩ : ∃ n', n = n' + 1 := ⟨n - 1, by simp at hn; omega⟩
    have hi : j < L.length := by
      have := congrArg List.length hR
      simp [corL_len] at this
      omega
    have hi' : (j : Int) < L.length := by omega
    obtain ⟨q, hq⟩ : ∃ q, L[j]? = some q := ⟨_, List.getElem?_eq_getElem hi⟩
    have hp := corL_get L i u j q hq h0
    have hp' : (corL L i u)[j]? = some p := by
      have := congrArg (fun l => l[0]?) hR
      simpa using this
    rw [hp'] at hp
    obtain rfl := Option.some.inj hp
    have hw : IntKind.i64.wrap ((j : Int) + 1) = ((j + 1 : Nat) : Int) := by rw [wrap_fit (by omega) (by omega)]; rfl
    by_cases hji : (j : Int) = i
    · subst hji
      simp only [if_true] at hp' hR ⊢
      by_cases c1 : IntKind.i64.wrap (b + u) < 0
      · have hb : inR (IntKind.i64.wrap (b + u)) 0 1000000000000 = false := by simp [inR]; omega
        simp -implicitDefEqProofs [loopOf, loopsOf, codeOf, Try.f37, hi', g0, g1, g2, g7, g8, hs, h1, h2, accR, hq, mv, hw, walkP, fC, c1, hb]
        exact ⟨_, rfl, by simp [hs], by simp [hs], by simp [g0, g1, g2, hs]⟩
      by_cases c2 : 1000000000000 < IntKind.i64.wrap (b + u)
      · have hb : inR (IntKind.i64.wrap (b + u)) 0 1000000000000 = false := by simp [inR]; omega
        simp -implicitDefEqProofs [loopOf, loopsOf, codeOf, Try.f37, hi', g0, g1, g2, g7, g8, hs, h1, h2, accR, hq, mv, hw, walkP, fC, c1, c2, hb]
        exact ⟨_, rfl, by simp [hs], by simp [hs], by simp [g0, g1, g2, hs]⟩
      have hb : inR (IntKind.i64.wrap (b + u)) 0 1000000000000 = true := by simp [inR]; omega
      simp -implicitDefEqProofs [loopOf, loopsOf, codeOf, Try.f37, hi', g0, g1, g2, g7, g8, hs, h1, h2, accR, hq, mv, hw, walkP, fC, c1, c2, hb]
      exact ih n (j + 1) _ _ (by simp [hs]) (by simp [g0]) (by simp [g1]) (by simp [g2]) (by simp [hs]) (by simp [hs]) (by simp at hn; omega) (by rw [← List.drop_drop, hR]; rfl)
    · simp only [if_neg hji] at hp' hR ⊢
      by_cases c1 : IntKind.i64.wrap (b + q.2) < 0
      · have hb : inR (IntKind.i64.wrap (b + q.2)) 0 1000000000000 = false := by simp [inR]; omega
        simp -implicitDefEqProofs [loopOf, loopsOf, codeOf, Try.f37, hi', g0, g1, g2, g7, g8, hs, h1, h2, accR, hq, mv, hw, hji, walkP, fC, c1, hb]
        exact ⟨_, rfl, by simp [hs], by simp [hs], by simp [g0, g1, g2, hs]⟩
      by_cases c2 : 1000000000000 < IntKind.i64.wrap (b + q.2)
      · have hb : inR (IntKind.i64.wrap (b + q.2)) 0 1000000000000 = false := by simp [inR]; omega
        simp -implicitDefEqProofs [loopOf, loopsOf, codeOf, Try.f37, hi', g0, g1, g2, g7, g8, hs, h1, h2, accR, hq, mv, hw, hji, walkP, fC, c1, c2, hb]
        exact ⟨_, rfl, by simp [hs], by simp [hs], by simp [g0, g1, g2, hs]⟩
      have hb : inR (IntKind.i64.wrap (b + q.2)) 0 1000000000000 = true := by simp [inR]; omega
      simp -implicitDefEqProofs [loopOf, loopsOf, codeOf, Try.f37, hi', g0, g1, g2, g7, g8, hs, h1, h2, accR, hq, mv, hw, hji, walkP, fC, c1, c2, hb]
      exact ih n (j + 1) _ _ (by simp [hs]) (by simp [g0]) (by simp [g1]) (by simp [g2]) (by simp [hs]) (by simp [hs]) (by simp at hn; omega) (by rw [← List.drop_drop, hR]; rfl)

/-- A correction, where it is let in. -/
theorem m37 (id sid : Nat) (m : AMem) (k : Nat) (r v i u : Int) (L : List (Int × Int)) (cl : Bool) (hst : ∀ b ∈ m.blks, Still m.blks.length m.next b) (h : AtR m.blks id sid r v L cl) (hro : m.ro ≤ sid) (hn : L.length ≤ 1000000) (hk : L.length < k) :
    mcall (den Try.prog cfg0 (k+1)) 37 [.ref id 0 0, I i, I u] m = some (I (corE L cl i u), ⟨if corE L cl i u = 0 then m.blks.set sid (.vec ((corL L i u).map mv) 2) else m.blks, m.next, m.live, m.ro⟩) := by
  have hacc := h.acc
  have hvec := h.vec
  have hw : w64 ((L.length : Int) - 1) = L.length - 1 := wrap_fit (by omega) (by omega)
  have hstv : ∀ N nx (M : List (Int × Int)), Still N nx (.vec (M.map mv) 2) := by
    intro N nx M m n nx' _ _
    have hm : M.map (conv m n nx' ∘ mv) = M.map mv := List.map_congr_left fun q _ => conv_mv m n nx' q
    simp [hm]
  have hd : den Try.prog cfg0 (k+1) (.call 37 [.ref id 0 0, I i, I u]) m = some (I (corE L cl i u), ⟨if corE L cl i u = 0 then m.blks.set sid (.vec ((corL L i u).map mv) 2) else m.blks, m.next, m.live, m.ro⟩) := by
    rw [den_call Try.func37 rfl]
    unfold corE
    by_cases h1 : u < -1000000000000
    · have hu : inR u (-1000000000000) 1000000000000 = false := by simp [inR]; omega
      simp -implicitDefEqProofs [-loopN_succ, Try.f37, h1, hu]
    by_cases h2 : 1000000000000 < u
    · have hu : inR u (-1000000000000) 1000000000000 = false := by simp [inR]; omega
      simp -implicitDefEqProofs [-loopN_succ, Try.f37, h1, h2, hu]
    have hu : inR u (-1000000000000) 1000000000000 = true := by simp [inR]; omega
    cases cl
    case true => simp -implicitDefEqProofs [-loopN_succ, Try.f37, h1, h2, hu, hacc, accR]
    by_cases h3 : i < 0
    · have hi : inR i 0 (w64 (L.length - 1)) = false := by simp [inR]; omega
      simp -implicitDefEqProofs [-loopN_succ, Try.f37, h1, h2, hu, hacc, accR, h3, hi]
    by_cases h4 : (L.length : Int) ≤ i
    · have hi : inR i 0 (w64 (L.length - 1)) = false := by rw [hw]; simp [inR]; omega
      simp -implicitDefEqProofs [-loopN_succ, Try.f37, h1, h2, hu, hacc, accR, h3, h4, hi]
    have hi : inR i 0 (w64 (L.length - 1)) = true := by rw [hw]; simp [inR]; omega
    simp -implicitDefEqProofs [-loopN_succ, Try.f37, h1, h2, hu, hacc, accR, h3, h4, hi]
    generalize hx : loopN _ _ _ _ = x
    have hE : EndC x (walkP fC false (corL L i u) 0) ⟨m.blks, m.next, m.live, m.ro⟩ 73 [(0, .ref id 0 0), (1, I i), (2, I u)] := by
      rw [← hx]
      have hl := loop37 id sid r v i u L false m.blks m.next m.ro m.live k hn h (by omega) (corL L i u) k 0 0
      simp -implicitDefEqProofs [-loopN_succ, loopOf, loopsOf, codeOf, Try.f37, corL_len] at hl
      exact hl _ rfl rfl rfl rfl rfl rfl hk
    obtain ⟨s', rfl, hs, h6, hkp⟩ := hE
    have k0 : s'[0]? = some (.ref id 0 0) := hkp (0, _) (by simp)
    have k1 : s'[1]? = some (I i) := hkp (1, _) (by simp)
    have k2 : s'[2]? = some (I u) := hkp (2, _) (by simp)
    cases hb : walkP fC false (corL L i u) 0
    · have hlt : i.toNat < L.length := by omega
      have hq : L[i.toNat]? = some L[i.toNat] := List.getElem?_eq_getElem hlt
      have h3' : 0 ≤ i := by omega
      have h4' : i < L.length := by omega
      have hc : (L.map mv).set i.toNat (.agg [I L[i.toNat].1, I u]) = (corL L i u).map mv := by
        unfold corL
        rw [List.map_set, List.getD_eq_getElem?_getD, hq]; rfl
      simp -implicitDefEqProofs [k0, k1, k2, hs, hacc, accR, hvec, hro, h3', h4', hq, mv]
      rw [hc]
    · have k6 := h6 hb
      simp -implicitDefEqProofs [k6, hs]
  rw [mcall_of hd, conv_v]
  split
  · rw [shrink_same (by simp)]
    exact still_set hst (hstv _ _ _)
  · rw [shrink_same rfl hst]
end Go.Den
