/-
  The first instant of a day. Conditions: as each statement says.
-/
import Derived.Test.YtanckiphgbnfpaaDoorDenW5
namespace Go.Den
open Go.Proofs
set_option linter.unusedSimpArgs false
set_option linter.unusedVariables false

theorem d38 (a : AV) (m : AMem) (k : Nat) (hro : m.ro ≤ m.blks.length) :
    den Tryd.prog cfg1 (k+1) (.call 38 [.agg [a]]) m = some (.fn (.func 47) [] [.ref m.blks.length 0 0], { m with blks := m.blks ++ [.arr [.agg [a]] 1] }) := by
  rw [den_call Tryd.func38 rfl]
  simp [Tryd.f38, hro]

def locD (day : Int) : Int := (if day < -2 then -2 else day) * 1440
theorem locD_wrap {day : Int} (h : day ≤ 100001) : IntKind.i64.wrap ((if day < -2 then -2 else day) * 1440) = locD day ∧ IntKind.i64.wrap (locD day) = locD day := by
  unfold locD
  by_cases h1 : day < -2
  · simp only [h1, if_true]; exact ⟨rfl, rfl⟩
  · simp only [h1, if_false]
    have : w64 (day * 1440) = day * 1440 := w64_fit (by omega) (by omega)
    exact ⟨this, this⟩

/-- A round of Instant. -/
def fI (loc : Int) (_ : Option Int) (a o e : Int) : Option Int × Bool :=
  if (if a < w64 (loc - o) then w64 (loc - o) else a) ≤ e then (some (if a < w64 (loc - o) then w64 (loc - o) else a), false) else (none, true)

noncomputable def tmps36 (n : Nat) (Z : List (Int × Int)) (c : Cap) (day : Int) : List AV :=
  [AV.agg [AV.sl 2 (List.map shv Z) c], I day, I 0, AV.ref n 0 0, AV.v undef, AV.v undef, AV.ref (n + 1) 0 0, AV.ref (n + 2) 0 0, AV.ref (n + 3) 0 0, AV.v undef, AV.v undef, AV.v (Value.bool false), AV.agg [AV.sl 2 (List.map shv Z) c], B true, AV.v (Value.bool false), AV.v (Value.bool false), I 0, AV.v (Value.bool false), AV.v (Value.bool false), AV.v (Value.bool false), I 0, AV.v (Value.bool false), AV.v (Value.bool false), AV.v (Value.bool false), I day, AV.v (Value.bool false), I day, AV.v (Value.int IntKind.i64 (if day < -2 then -2 else day)), AV.v (Value.int IntKind.i64 (locD day)), I 0, AV.v (Value.int IntKind.i64 (locD day)), AV.agg [AV.sl 2 (List.map shv Z) c], AV.fn (Fn.func 47) [] [AV.ref (n + 4) 0 0], AV.v undef, AV.v undef, AV.v undef, AV.v undef, AV.v undef, AV.v undef, AV.v undef, AV.v undef, AV.v undef, AV.v undef, AV.v undef, AV.v undef, AV.v undef, AV.v undef, AV.v undef]
noncomputable def pre36 (n : Nat) (Z : List (Int × Int)) (c : Cap) (day : Int) (s : Option Int) : List ABlk :=
  [.arr [.agg [.sl 2 (Z.map shv) c]] 1, .arr [I (s.getD 0)] 1, .arr [I 0] 1, .arr [I (locD day)] 1, .arr [.agg [.sl 2 (Z.map shv) c]] 1, .dfd, .loop { state := if s.isSome then .done else .ready, pending := if s.isSome then some .ret else none, fn := 36, tmps := tmps36 n Z c day, params := #[33], assign := (rangeOf Tryd.f36 0).1, body := (rangeOf Tryd.f36 0).2 }]

theorem conv_shv (m : AMem) (n nx : Nat) (Z : List (Int × Int)) : Z.map (conv m n nx ∘ shv) = Z.map shv := List.map_congr_left fun q _ => by simp [shv]

theorem round36 (A : List ABlk) (nx : Nat) (lv : List Nat) (k : Nat) (Z : List (Int × Int)) (c : Cap) (hc : convCap nx c = c) (day a o e : Int) (t : List ABlk) (ht : Junk t) :
    den Tryd.prog cfg1 (k+1) (.round (A.length + 6) [.agg [I a, I o, I e]]) ⟨A ++ pre36 A.length Z c day none ++ t, nx, lv, A.length⟩ = some (B (fI (locD day) none a o e).2, ⟨A ++ pre36 A.length Z c day (fI (locD day) none a o e).1 ++ t, nx, lv, A.length⟩) := by
  rw [den_round]
  have hm := conv_shv
  have ho : ∀ (m : AMem) j, conv m (A.length + (t.length + 7)) nx (.ref (A.length + j) 0 0) = if j < t.length + 7 then .ref (A.length + j) 0 0 else .any := fun m j => by simp
  unfold fI
  by_cases h1 : a < w64 (locD day - o)
  · by_cases h2 : w64 (locD day - o) ≤ e <;> simp [stepRound, pre36, tmps36, rangeOf, rangesOf, codeOf, Tryd.f36, setParams, isNormal, endOf, ht.conv, hc, h1, h2, hm, max2A]
  · by_cases h2 : a ≤ e <;> simp [stepRound, pre36, tmps36, rangeOf, rangesOf, codeOf, Tryd.f36, setParams, isNormal, endOf, ht.conv, hc, h1, h2, hm, max2A]

/-- The first instant of a day, where there is one. -/
def instS (Z : List (Int × Int)) (day : Int) : Option Int := walkS (fI (locD day)) none Z
/-- Begin: the instant and the error. -/
def begV (Z : List (Int × Int)) (day : Int) : Int := if valid Z = true ∧ day ≤ 100001 then (instS Z day).getD 0 else 0
def begE (Z : List (Int × Int)) (day : Int) : Int := if valid Z = true then (if day ≤ 100001 then (if (instS Z day).isSome then 0 else 10) else 10) else 1

theorem d36x (Z : List (Int × Int)) (c : Cap) (hc : ∀ nx, convCap nx c = c) (day : Int) (m : AMem) (k : Nat) (hro : m.ro = m.blks.length) (hZ : Z.length ≤ 1000000) (hk : Z.length < k) (hv : valid Z = true) (hd : day ≤ 100001) :
    ∃ m', den Tryd.prog cfg1 (k+3) (.call 36 [.agg [.sl 2 (Z.map shv) c], I day, I 0]) m = some (.tup [I ((instS Z day).getD 0), I (if (instS Z day).isSome then 0 else 10)], m') := by
  rw [den_call Tryd.func36 rfl]
  have hV := fun m => p23 (a := .sl 2 (Z.map shv) c) (Z := Z) (.inr ⟨c, hc, rfl⟩) m k hZ hk
  have hd' : ¬ 100001 < day := by omega
  obtain ⟨hl1, hl2⟩ := locD_wrap hd
  obtain ⟨t, ht, h47⟩ := d47 (pre := fun s => m.blks ++ pre36 m.blks.length Z c day s) (f := fI (locD day)) (k + 1) (m.blks.length + 7) (m.blks.length + 6) m.next m.blks.length (m.blks.length + 4) m.live Z c
    (by intro s; simp [pre36]) (by omega) hZ (by omega) (by omega) (by intro s; simp [pre36]) (fun s => s = none) (by
      intro s a o e hs hf
      unfold fI at hf ⊢
      by_cases h2 : (if a < w64 (locD day - o) then w64 (locD day - o) else a) ≤ e
      · rw [if_pos h2] at hf; cases hf
      · rw [if_neg h2]) none rfl
    (fun s t a o e hs ht => by subst hs; exact round36 m.blks m.next m.live k Z c (hc _) day a o e t ht)
  have hm := conv_shv
  have h16 : ∀ n : Nat, n + 1 + 6 = n + 7 := fun n => rfl
  unfold instS
  simp [pre36, tmps36, rangeOf, rangesOf, codeOf, Tryd.f36] at h47
  generalize walkS (fI (locD day)) none Z = r at h47 ⊢
  cases r <;> simp -implicitDefEqProofs [Tryd.f36, hV, hv, hro, hd', max2A, d38, exRange, layLoop, get_app_len, hl1, hl2, h47, afterRange, hc, hm, exitOf, h16]

theorem p36 {a : AV} {Z : List (Int × Int)} (h : ShL a Z) (day : Int) (m : AMem) (k : Nat) (hZ : Z.length ≤ 1000000) (hk : Z.length < k) : pcall (den Tryd.prog cfg1 (k+3)) 36 [.agg [a], I day, I 0] m = some (.tup [I (begV Z day), I (begE Z day)]) := by
  have hV := fun m => p23 h m k hZ hk
  have key : ∃ m', den Tryd.prog cfg1 (k+3) (.call 36 [.agg [a], I day, I 0]) { m with ro := m.blks.length, live := [] } = some (.tup [I (begV Z day), I (begE Z day)], m') := by
    cases hv : valid Z
    · rw [den_call Tryd.func36 rfl]
      simp -implicitDefEqProofs [Tryd.f36, hV, hv, begV, begE, get_app_len]
    by_cases hd : 100001 < day
    · rw [den_call Tryd.func36 rfl]
      have hd' : ¬ day ≤ 100001 := by omega
      simp -implicitDefEqProofs [Tryd.f36, hV, hv, begV, begE, get_app_len, hd, hd']
    have hd' : day ≤ 100001 := by omega
    rcases h with ⟨rfl, rfl⟩ | ⟨c, hcv, rfl⟩
    · simp [valid] at hv
    · obtain ⟨m', h⟩ := d36x Z c hcv day { m with ro := m.blks.length, live := [] } k rfl hZ hk hv hd'
      refine ⟨m', ?_⟩
      rw [h]
      simp [begV, begE, hv, hd']
  obtain ⟨m', key⟩ := key
  rw [pcall_of key]
  simp

theorem p19 {a : AV} {Z : List (Int × Int)} (h : ShL a Z) (day : Int) (m : AMem) (k : Nat) (hZ : Z.length ≤ 1000000) (hk : Z.length < k) : pcall (den Tryd.prog cfg1 (k+4)) 19 [.agg [a], I day] m = some (.tup [I (begV Z day), I (begE Z day)]) := by
  have h36 := fun m => p36 h day m k hZ hk
  have key : ∃ m', den Tryd.prog cfg1 (k+4) (.call 19 [.agg [a], I day]) { m with ro := m.blks.length, live := [] } = some (.tup [I (begV Z day), I (begE Z day)], m') := by
    rw [den_call Tryd.func19 rfl]
    simp -implicitDefEqProofs [Tryd.f19, h36, get_app_len]
  obtain ⟨m', key⟩ := key
  rw [pcall_of key]
  simp
end Go.Den
