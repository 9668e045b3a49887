/-
  The range over a zone's spans. Conditions: as each statement says.
-/
import Derived.Test.YtanckiphgbnfpaaDoorDenW4
namespace Go.Den
open Go.Proofs
set_option linter.unusedSimpArgs false
set_option linter.unusedVariables false

/-- What is left of the rounds' own variables. -/
def Junk (t : List ABlk) : Prop := ∀ b ∈ t, ∃ p, b = .arr [shv p] 2
theorem Junk.add {t : List ABlk} (h : Junk t) (p : Int × Int) : Junk (t ++ [.arr [shv p] 2]) := by
  intro x hx
  rcases List.mem_append.1 hx with hx | hx
  · exact h x hx
  · simp at hx; exact ⟨p, hx⟩
theorem Junk.conv {t : List ABlk} (h : Junk t) (m : AMem) (n nx : Nat) : t.map (convBlk (Den.conv m n nx)) = t := by
  induction t with
  | nil => rfl
  | cons x t ih =>
    obtain ⟨p, rfl⟩ := h x (by simp)
    rw [List.map_cons, ih (fun b hb => h b (by simp [hb]))]
    simp [shv]

/-- The last instant of a shift. -/
def endOfS : List (Int × Int) → Int
  | [] => 144001439
  | (a, _) :: _ => w64 (a - 1)
/-- The rounds of a range over spans. -/
def walkS {σ : Type} (f : σ → Int → Int → Int → σ × Bool) : σ → List (Int × Int) → σ
  | s, [] => s
  | s, (a, o) :: Z => bif (f s a o (endOfS Z)).2 then walkS f (f s a o (endOfS Z)).1 Z else (f s a o (endOfS Z)).1

def Ends (x : Option (AExit × St)) (p : List ABlk) (nx : Nat) (lv : List Nat) (ro : Nat) : Prop :=
  ∃ (e : AExit) (s' : List AV) (t' : List ABlk), Junk t' ∧ (e = .exit 0 ∨ e = .ret) ∧ x = some (e, ⟨s', ⟨p ++ t', nx, lv, ro⟩, []⟩)

theorem loop47 {σ : Type} (pre : σ → List ABlk) (f : σ → Int → Int → Int → σ × Bool) (k nb l nx ro bx : Nat) (lv : List Nat) (Z : List (Int × Int)) (c : Cap) (hlen : ∀ s, (pre s).length = nb) (hro : ro ≤ nb) (hZ : Z.length ≤ 1000000)
    (hbx : bx < nb) (hbox : ∀ s, (pre s)[bx]? = some (.arr [.agg [.sl 2 (Z.map shv) c]] 1)) (ok : σ → Prop) (hok : ∀ s a o e, ok s → (f s a o e).2 = true → ok (f s a o e).1)
    (hround : ∀ s t a o e, ok s → Junk t → den Tryd.prog cfg1 k (.round l [.agg [I a, I o, I e]]) ⟨pre s ++ t, nx, lv, ro⟩ = some (B (f s a o e).2, ⟨pre (f s a o e).1 ++ t, nx, lv, ro⟩)) :
    ∀ (R : List (Int × Int)) (n i : Nat) (s : σ) (t : List ABlk) (S : List AV), ok s → slen S = 35 → S[0]? = some (.yld l) → S[1]? = some (.ref bx 0 0) → S[7]? = some (.sl 2 (Z.map shv) c) → S[8]? = some (I Z.length) → S[9]? = some (I i) → R.length < n → Z.drop i = R → Junk t →
    Ends (loopN [] (exec Tryd.prog cfg1 (den Tryd.prog cfg1 k) k 47 none [] (loopOf Tryd.f47 0)) n ⟨S, ⟨pre s ++ t, nx, lv, ro⟩, []⟩)
      (pre (walkS f s R)) nx lv ro := by
  intro R
  induction R with
  | nil =>
    intro n i s t S hs0 hs h0 h1 h7 h8 h9 hn hR ht
    obtain ⟨n, rfl⟩ : ∃ n', n = n' + 1 := ⟨n - 1, by omega⟩
    have hi : ¬ ((i : Int) < Z.length) := by
      have := congrArg List.length hR
      simp at this
      omega
    simp -implicitDefEqProofs [loopOf, loopsOf, codeOf, Tryd.f47, hi, h8, h9, hs, walkS]
    exact ⟨.exit 0, _, t, ht, .inl rfl, rfl⟩
  | cons p R ih =>
    intro n i s t S hs0 hs h0 h1 h7 h8 h9 hn hR ht
    obtain ⟨n, rfl⟩ : ∃ n', n = n' + 1 := ⟨n - 1, by simp at hn; omega⟩
    have hi : i < Z.length := by
      have := congrArg List.length hR
      simp at this
      omega
    have hi' : (i : Int) < Z.length := by omega
    have hp : Z[i]? = some p := by
      have := congrArg (fun l => l[0]?) hR
      simpa using this
    have hlen' := hlen s
    have hw : IntKind.i64.wrap ((i : Int) + 1) = ((i + 1 : Nat) : Int) := by rw [wrap_fit (by omega) (by omega)]; rfl
    have hrk : ∀ j, ro ≤ nb + j := fun j => by omega
    have hX : ∀ X : List ABlk, (pre s ++ X)[bx]? = some (.arr [.agg [.sl 2 (Z.map shv) c]] 1) := fun X => by rw [get_app_lt (by omega)]; exact hbox s
    obtain ⟨a, o⟩ := p
    have hr := hround s (t ++ [.arr [shv (a, o)] 2]) a o (endOfS R) hs0 (ht.add _)
    have hj := ht.add (a, o)
    simp only [shv] at hr hj
    have hga := get_app_add (pre s) (t ++ [ABlk.arr [AV.agg [I a, I o]] 2]) t.length
    rw [hlen'] at hga
    cases R with
    | nil =>
      have c1 : ¬ (((i + 1 : Nat) : Int) < Z.length) := by
        have := congrArg List.length hR
        simp at this
        omega
      have c1' : ¬ ((i : Int) + 1 < Z.length) := by omega
      simp only [endOfS] at hr
      cases hb : (f s a o 144001439).2
      · rw [hb] at hr
        simp -implicitDefEqProofs [loopOf, loopsOf, codeOf, Tryd.f47, hi', h0, h1, h7, h8, h9, hs, hp, shv, hrk, hro, hw, hX, c1, c1', walkS, endOfS, hr, hb, hlen', get_app_len, hga]
        exact ⟨.ret, _, _, hj, .inr rfl, rfl⟩
      · rw [hb] at hr
        simp -implicitDefEqProofs [loopOf, loopsOf, codeOf, Tryd.f47, hi', h0, h1, h7, h8, h9, hs, hp, shv, hrk, hro, hw, hX, c1, c1', walkS, endOfS, hr, hb, hlen', get_app_len, hga]
        have := ih n (i + 1) (f s a o 144001439).1
        simp only [walkS] at this
        refine this _ _ (hok _ _ _ _ hs0 hb) (by simp [hs]) (by simp [h0]) (by simp [h1]) (by simp [h7]) (by simp [h8]) (by simp [hs]) (by simp at hn; omega) (by rw [← List.drop_drop, hR]; rfl) hj
    | cons q R =>
      obtain ⟨a', o'⟩ := q
      have hq : Z[i + 1]? = some (a', o') := by
        have := congrArg (fun l => l[1]?) hR
        simpa using this
      have c1 : ((i + 1 : Nat) : Int) < Z.length := by
        have := (List.getElem?_eq_some_iff.1 hq).1
        omega
      have c1' : (i : Int) + 1 < Z.length := by omega
      have hw' : IntKind.i64.wrap ((i : Int) + 1) = (i : Int) + 1 := by rw [hw]; simp
      have htn : ((i : Int) + 1).toNat = i + 1 := by omega
      have h0i : (0 : Int) ≤ (i : Int) + 1 := by omega
      simp only [endOfS] at hr
      cases hb : (f s a o (w64 (a' - 1))).2
      · rw [hb] at hr
        simp -implicitDefEqProofs [loopOf, loopsOf, codeOf, Tryd.f47, hi', h0, h1, h7, h8, h9, hs, hp, hq, shv, hrk, hro, hw', htn, h0i, hX, c1, c1', walkS, endOfS, hr, hb, hlen', get_app_len, hga]
        exact ⟨.ret, _, _, hj, .inr rfl, rfl⟩
      · rw [hb] at hr
        simp -implicitDefEqProofs [loopOf, loopsOf, codeOf, Tryd.f47, hi', h0, h1, h7, h8, h9, hs, hp, hq, shv, hrk, hro, hw', htn, h0i, hX, c1, c1', walkS, endOfS, hr, hb, hlen', get_app_len, hga]
        have := ih n (i + 1) (f s a o (w64 (a' - 1))).1
        simp only [walkS, endOfS] at this
        refine this _ _ (hok _ _ _ _ hs0 hb) (by simp [hs]) (by simp [h0]) (by simp [h1]) (by simp [h7]) (by simp [h8]) (by simp [hs]) (by simp at hn ⊢; omega) (by rw [← List.drop_drop, hR]; rfl) hj

theorem d47 {σ : Type} (pre : σ → List ABlk) (f : σ → Int → Int → Int → σ × Bool) (k nb l nx ro bx : Nat) (lv : List Nat) (Z : List (Int × Int)) (c : Cap) (hlen : ∀ s, (pre s).length = nb) (hro : ro ≤ nb) (hZ : Z.length ≤ 1000000) (hk : Z.length < k)
    (hbx : bx < nb) (hbox : ∀ s, (pre s)[bx]? = some (.arr [.agg [.sl 2 (Z.map shv) c]] 1)) (ok : σ → Prop) (hok : ∀ s a o e, ok s → (f s a o e).2 = true → ok (f s a o e).1) (s : σ) (hs0 : ok s)
    (hround : ∀ s t a o e, ok s → Junk t → den Tryd.prog cfg1 k (.round l [.agg [I a, I o, I e]]) ⟨pre s ++ t, nx, lv, ro⟩ = some (B (f s a o e).2, ⟨pre (f s a o e).1 ++ t, nx, lv, ro⟩)) :
    ∃ t, Junk t ∧ den Tryd.prog cfg1 (k + 1) (.call 47 [.yld l, .ref bx 0 0]) ⟨pre s, nx, lv, ro⟩ = some (.tup [], ⟨pre (walkS f s Z) ++ t, nx, lv, ro⟩) := by
  rw [den_call Tryd.func47 rfl]
  have hb0 := hbox s
  simp -implicitDefEqProofs [-loopN_succ, Tryd.f47, hb0]
  generalize hx : loopN _ _ _ _ = x
  have hE : Ends x (pre (walkS f s Z)) nx lv ro := by
    rw [← hx]
    have hl := loop47 pre f k nb l nx ro bx lv Z c hlen hro hZ hbx hbox ok hok hround Z k 0 s []
    simp -implicitDefEqProofs [-loopN_succ, loopOf, loopsOf, codeOf, Tryd.f47] at hl
    exact hl _ hs0 rfl rfl rfl rfl rfl rfl hk (by simp [Junk])
  obtain ⟨e, s', t', hj, he, rfl⟩ := hE
  refine ⟨t', hj, ?_⟩
  rcases he with rfl | rfl <;> simp
end Go.Den
