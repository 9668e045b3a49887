/-
  The range over an account's periods, whatever is done in its rounds. Conditions: as each statement says.
-/
import Derived.Test.YtnnajbbmgponpaaDenF1
namespace Go.Den
open Go.Proofs
set_option linter.unusedSimpArgs false

noncomputable def body42 : Code := match Try.f42.body with
  | some (.seq _ (.seq _ (.seq (.block _ (.loop c)) _))) => c
  | some (.seq _ (.seq _ (.block _ (.loop c)))) => c
  | _ => .skip

/-- What is left of the rounds' own variables. -/
def Junk (t : List ABlk) : Prop := ∀ b ∈ t, ∃ p, b = .arr [mv p] 2

/-- The rounds of a range over periods. -/
def walkP {σ : Type} (f : σ → Int → Int → σ × Bool) : σ → List (Int × Int) → Int → σ
  | s, [], _ => s
  | s, (d, u) :: L, b => bif (f s d (IntKind.i64.wrap (b + u))).2 then walkP f (f s d (IntKind.i64.wrap (b + u))).1 L (IntKind.i64.wrap (b + u)) else (f s d (IntKind.i64.wrap (b + u))).1

/-- A loop has ended: the blocks are the given ones, and some of the rounds' own. -/
def Ends (x : Option (AExit × St)) (p : List ABlk) (nx : Nat) (lv : List Nat) (ro : Nat) : Prop :=
  ∃ (e : AExit) (s' : List AV) (t' : List ABlk), Junk t' ∧ (e = .exit 0 ∨ e = .ret) ∧ x = some (e, ⟨s', ⟨p ++ t', nx, lv, ro⟩, []⟩)

theorem loop42 {σ : Type} (pre : σ → List ABlk) (f : σ → Int → Int → σ × Bool) (k nb l nx ro : Nat) (lv : List Nat) (L : List (Int × Int)) (c : Cap) (hlen : ∀ s, (pre s).length = nb) (hro : ro ≤ nb) (hn : L.length ≤ 1000000)
    (hround : ∀ s t d b, Junk t → den Try.prog cfg0 k (.round l [I d, I b]) ⟨pre s ++ t, nx, lv, ro⟩ = some (B (f s d b).2, ⟨pre (f s d b).1 ++ t, nx, lv, ro⟩)) :
    ∀ (R : List (Int × Int)) (n i : Nat) (s : σ) (t : List ABlk) (b : Int) (x1 x2 x4 x5 x6 x7 x8 x12 x13 x14 x15 x16 x17 x18 x19 x20 x21 x22 x23 x24 x25 : AV), R.length < n → L.drop i = R → Junk t →
    Ends (loopN [] (exec Try.prog cfg0 (den Try.prog cfg0 k) k 42 none [] body42) n
        ⟨[.yld l, x1, x2, I b, x4, x5, x6, x7, x8, .sl 2 (L.map mv) c, I L.length, I i, x12, x13, x14, x15, x16, x17, x18, x19, x20, x21, x22, x23, x24, x25], ⟨pre s ++ t, nx, lv, ro⟩, []⟩)
      (pre (walkP f s R b)) nx lv ro := by
  intro R
  induction R with
  | nil =>
    intro n i s t b x1 x2 x4 x5 x6 x7 x8 x12 x13 x14 x15 x16 x17 x18 x19 x20 x21 x22 x23 x24 x25 hn' hR ht
    obtain ⟨n, rfl⟩ : ∃ n', n = n' + 1 := ⟨n - 1, by omega⟩
    have hi : ¬ ((i : Int) < L.length) := by
      have := congrArg List.length hR
      simp at this
      omega
    simp [body42, Try.f42, hi, walkP]
    exact ⟨.exit 0, _, t, ht, .inl rfl, rfl⟩
  | cons p R ih =>
    intro n i s t b x1 x2 x4 x5 x6 x7 x8 x12 x13 x14 x15 x16 x17 x18 x19 x20 x21 x22 x23 x24 x25 hn' hR ht
    obtain ⟨n, rfl⟩ : ∃ n', n = n' + 1 := ⟨n - 1, by simp at hn'; omega⟩
    have hi : i < L.length := by
      have := congrArg List.length hR
      simp at this
      omega
    have hi' : (i : Int) < L.length := by omega
    have hp : L[i]? = some p := by
      have := congrArg (fun l => l[0]?) hR
      simpa using this
    have hL : (L.map mv)[i]? = some (mv p) := by simp [hp]
    have hlen' := hlen s
    have hr := hround s (t ++ [.arr [mv p] 2]) p.1 (IntKind.i64.wrap (b + p.2)) (by
      intro x hx
      rcases List.mem_append.1 hx with hx | hx
      · exact ht x hx
      · simp at hx; exact ⟨p, hx⟩)
    have hw : IntKind.i64.wrap ((i : Int) + 1) = ((i + 1 : Nat) : Int) := by rw [wrap_fit (by omega) (by omega)]; rfl
    simp only [mv] at hr hL
    have hj : Junk (t ++ [.arr [.agg [I p.1, I p.2]] 2]) := by
      intro x hx
      rcases List.mem_append.1 hx with hx | hx
      · exact ht x hx
      · simp at hx; exact ⟨p, hx⟩
    cases hb : (f s p.1 (IntKind.i64.wrap (b + p.2))).2
    · rw [hb] at hr
      simp [body42, Try.f42, hi', walkP, hL, hp, hr, hb, mv, hlen', hro, get_app_len, get_app_add, Nat.le_trans hro (Nat.le_add_right _ _)]
      exact ⟨.ret, _, _, hj, .inr rfl, rfl⟩
    · rw [hb] at hr
      simp [body42, Try.f42, hi', walkP, hL, hp, hr, hb, mv, hlen', hro, get_app_len, get_app_add, Nat.le_trans hro (Nat.le_add_right _ _), hw]
      refine ih n (i + 1) _ _ _ _ _ _ _ _ _ _ _ _ _ _ _ _ _ _ _ _ _ _ _ _ (by simp at hn'; omega) ?_ hj
      rw [← List.drop_drop, hR]; rfl

theorem d42 {σ : Type} (pre : σ → List ABlk) (f : σ → Int → Int → σ × Bool) (k nb l bx id nx ro : Nat) (lv : List Nat) (r v : Int) (L : List (Int × Int)) (c : Cap) (cl : Bool) (hlen : ∀ s, (pre s).length = nb) (hro : ro ≤ nb) (hn : L.length ≤ 1000000) (hk : L.length < k)
    (s : σ) (hacc : (pre s)[id]? = some (acc r v L c cl)) (hbox : (pre s)[bx]? = some (.arr [.ref id 0 0] 1))
    (hround : ∀ s t d b, Junk t → den Try.prog cfg0 k (.round l [I d, I b]) ⟨pre s ++ t, nx, lv, ro⟩ = some (B (f s d b).2, ⟨pre (f s d b).1 ++ t, nx, lv, ro⟩)) :
    ∃ t, Junk t ∧ den Try.prog cfg0 (k + 1) (.call 42 [.yld l, .ref bx 0 0]) ⟨pre s, nx, lv, ro⟩ = some (.tup [], ⟨pre (walkP f s L 0) ++ t, nx, lv, ro⟩) := by
  rw [den_call Try.func42 rfl]
  have hl := loop42 pre f k nb l nx ro lv L c hlen hro hn hround L k 0 s [] 0 (.ref bx 0 0) (.v undef) (.v undef) (.v undef) (.ref id 0 0) (.ref id 0 0) (.ref id 0 2) (.v undef) (.v undef) (.v undef) (.v undef) (.v undef) (.v undef) (.v undef) (.v undef) (.v undef) (.v undef) (.v undef) (.v undef) (.v undef) (.v undef) hk rfl (by simp [Junk])
  rw [List.append_nil, show ((0 : Nat) : Int) = 0 from rfl] at hl
  obtain ⟨e, s', t', hj, he, hl⟩ := hl
  simp only [body42, Try.f42] at hl
  refine ⟨t', hj, ?_⟩
  rcases he with rfl | rfl <;> simp [Try.f42, hbox, hacc, acc, hl]
end Go.Den
