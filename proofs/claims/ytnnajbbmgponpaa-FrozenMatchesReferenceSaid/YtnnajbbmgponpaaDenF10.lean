/-
  Units are corrected. Conditions: as each statement says.
-/
import Derived.Test.YtnnajbbmgponpaaDenF9
namespace Go.Den
open Go.Proofs
set_option linter.unusedSimpArgs false

/-- An account whose movements lie in a block of their own. -/
def accO (sid n : Nat) : ABlk := .arr [.agg [I 0, I 0, .own 2 sid 0 n, B false]] 4

theorem loop42o {σ : Type} (pre : σ → List ABlk) (f : σ → Int → Int → σ × Bool) (k nb l nx ro sid : Nat) (lv : List Nat) (L : List (Int × Int)) (hlen : ∀ s, (pre s).length = nb) (hro : ro ≤ nb) (hn : L.length ≤ 1000000) (hsid : sid < nb) (hs : ∀ s, (pre s)[sid]? = some (.arr (L.map mv) 2))
    (ok : σ → Prop) (hok : ∀ s d b, ok s → (f s d b).2 = true → ok (f s d b).1) (hround : ∀ s t d b, ok s → Junk t → den Try.prog cfg0 k (.round l [I d, I b]) ⟨pre s ++ t, nx, lv, ro⟩ = some (B (f s d b).2, ⟨pre (f s d b).1 ++ t, nx, lv, ro⟩)) :
    ∀ (R : List (Int × Int)) (n i : Nat) (s : σ) (t : List ABlk) (b : Int) (x1 x2 x4 x5 x6 x7 x8 x12 x13 x14 x15 x16 x17 x18 x19 x20 x21 x22 x23 x24 x25 : AV), ok s → R.length < n → L.drop i = R → Junk t →
    Ends (loopN [] (exec Try.prog cfg0 (den Try.prog cfg0 k) k 42 none [] body42) n
        ⟨[.yld l, x1, x2, I b, x4, x5, x6, x7, x8, .own 2 sid 0 L.length, I L.length, I i, x12, x13, x14, x15, x16, x17, x18, x19, x20, x21, x22, x23, x24, x25], ⟨pre s ++ t, nx, lv, ro⟩, []⟩)
      (pre (walkP f s R b)) nx lv ro := by
  intro R
  induction R with
  | nil =>
    intro n i s t b x1 x2 x4 x5 x6 x7 x8 x12 x13 x14 x15 x16 x17 x18 x19 x20 x21 x22 x23 x24 x25 hs0 hn' hR ht
    obtain ⟨n, rfl⟩ : ∃ n', n = n' + 1 := ⟨n - 1, by omega⟩
    have hi : ¬ ((i : Int) < L.length) := by
      have := congrArg List.length hR
      simp at this
      omega
    simp [body42, Try.f42, hi, walkP]
    exact ⟨.exit 0, _, t, ht, .inl rfl, rfl⟩
  | cons p R ih =>
    intro n i s t b x1 x2 x4 x5 x6 x7 x8 x12 x13 x14 x15 x16 x17 x18 x19 x20 x21 x22 x23 x24 x25 hs0 hn' hR ht
    obtain ⟨n, rfl⟩ : ∃ n', n = n' + 1 := ⟨n - 1, by simp at hn'; omega⟩
    have hi : i < L.length := by
      have := congrArg List.length hR
      simp at this
      omega
    have hi' : (i : Int) < L.length := by omega
    have hp : L[i]? = some p := by
      have := congrArg (fun l => l[0]?) hR
      simpa using this
    have hL : (L.map mv)[i]? = some (mv p) := by simp [hp]
    have hlen' := hlen s
    have hX : ∀ X : List ABlk, (pre s ++ X)[sid]? = some (.arr (L.map mv) 2) := fun X => by rw [get_app_lt (by omega)]; exact hs s
    have hr := hround s (t ++ [.arr [mv p] 2]) p.1 (IntKind.i64.wrap (b + p.2)) hs0 (by
      intro x hx
      rcases List.mem_append.1 hx with hx | hx
      · exact ht x hx
      · simp at hx; exact ⟨p, hx⟩)
    have hw : IntKind.i64.wrap ((i : Int) + 1) = ((i + 1 : Nat) : Int) := by rw [wrap_fit (by omega) (by omega)]; rfl
    simp only [mv] at hr hL
    have hj : Junk (t ++ [.arr [.agg [I p.1, I p.2]] 2]) := by
      intro x hx
      rcases List.mem_append.1 hx with hx | hx
      · exact ht x hx
      · simp at hx; exact ⟨p, hx⟩
    cases hb : (f s p.1 (IntKind.i64.wrap (b + p.2))).2
    · rw [hb] at hr
      simp [body42, Try.f42, hi', walkP, hL, hp, hr, hb, mv, hlen', hro, get_app_len, get_app_add, Nat.le_trans hro (Nat.le_add_right _ _), hX]
      exact ⟨.ret, _, _, hj, .inr rfl, rfl⟩
    · rw [hb] at hr
      simp [body42, Try.f42, hi', walkP, hL, hp, hr, hb, mv, hlen', hro, get_app_len, get_app_add, Nat.le_trans hro (Nat.le_add_right _ _), hw, hX]
      refine ih n (i + 1) _ _ _ _ _ _ _ _ _ _ _ _ _ _ _ _ _ _ _ _ _ _ _ _ (hok _ _ _ hs0 hb) (by simp at hn'; omega) ?_ hj
      rw [← List.drop_drop, hR]; rfl

theorem d42o {σ : Type} (pre : σ → List ABlk) (f : σ → Int → Int → σ × Bool) (k nb l bx id nx ro sid : Nat) (lv : List Nat) (L : List (Int × Int)) (ok : σ → Prop) (hok : ∀ s d b, ok s → (f s d b).2 = true → ok (f s d b).1) (hlen : ∀ s, (pre s).length = nb) (hro : ro ≤ nb) (hn : L.length ≤ 1000000) (hk : L.length < k)
    (s : σ) (hacc : (pre s)[id]? = some (accO sid L.length)) (hsid : sid < nb) (hs : ∀ s, (pre s)[sid]? = some (.arr (L.map mv) 2)) (hs0 : ok s) (hbox : (pre s)[bx]? = some (.arr [.ref id 0 0] 1))
    (hround : ∀ s t d b, ok s → Junk t → den Try.prog cfg0 k (.round l [I d, I b]) ⟨pre s ++ t, nx, lv, ro⟩ = some (B (f s d b).2, ⟨pre (f s d b).1 ++ t, nx, lv, ro⟩)) :
    ∃ t, Junk t ∧ den Try.prog cfg0 (k + 1) (.call 42 [.yld l, .ref bx 0 0]) ⟨pre s, nx, lv, ro⟩ = some (.tup [], ⟨pre (walkP f s L 0) ++ t, nx, lv, ro⟩) := by
  rw [den_call Try.func42 rfl]
  have hl := loop42o pre f k nb l nx ro sid lv L hlen hro hn hsid hs ok hok hround L k 0 s [] 0 (.ref bx 0 0) (.v undef) (.v undef) (.v undef) (.ref id 0 0) (.ref id 0 0) (.ref id 0 2) (.v undef) (.v undef) (.v undef) (.v undef) (.v undef) (.v undef) (.v undef) (.v undef) (.v undef) (.v undef) (.v undef) (.v undef) (.v undef) (.v undef) hs0 hk rfl (by simp [Junk])
  rw [List.append_nil, show ((0 : Nat) : Int) = 0 from rfl] at hl
  obtain ⟨e, s', t', hj, he, hl⟩ := hl
  simp only [body42, Try.f42] at hl
  refine ⟨t', hj, ?_⟩
  rcases he with rfl | rfl <;> simp [Try.f42, hbox, hacc, accO, hl]
end Go.Den
