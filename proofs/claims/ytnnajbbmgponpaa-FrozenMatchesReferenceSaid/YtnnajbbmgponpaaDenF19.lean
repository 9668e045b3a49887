/-
  The balance is kept: the loop over the steps. Conditions: as each statement says.
-/
import Derived.Test.YtnnajbbmgponpaaDenF18
namespace Go.Den
open Go.Proofs
set_option linter.unusedSimpArgs false
set_option linter.unusedVariables false

/-- What the loop of FrozenKeeps leaves. -/
def EndK (x : Option (AExit × St)) (r v to : Int) (up : Bool) : Prop :=
  ∃ s' A L c nx lv, x = some (.exit 0, ⟨s', ⟨A, nx, lv, 0⟩, []⟩) ∧ slen s' = 200 ∧ s'[5]? = some (I to) ∧ s'[13]? = some (B up) ∧ s'[14]? = some (.ref 0 0 0) ∧
    A[0]? = some (acc r v L c false) ∧ (∀ b ∈ A, Still 0 nx b) ∧ AppOk nx lv c ∧ Good L ∧ L.length ≤ 20

theorem still_vec {nx : Nat} {L : List (Int × Int)} : Still 0 nx (.vec (L.map un) 1) := by
  intro m n nx' _ _
  have hm : L.map (conv m n nx' ∘ un) = L.map un := List.map_congr_left fun q _ => by simp [un]
  simp [hm]
theorem still_one {nx : Nat} {u : Int} : Still 0 nx (.vec [I u] 1) := by
  intro m n nx' _ _
  simp
theorem still_stp {nx : Nat} {x : Stp} : Still 0 nx (.arr [stpv x] 4) := by
  intro m n nx' _ _
  simp [stpv, stp]
theorem still_gone {nx : Nat} : Still 0 nx .gone := by
  intro m n nx' _ _
  simp
theorem still_app {N nx : Nat} {A X : List ABlk} (h : ∀ b ∈ A, Still N nx b) (k : ∀ b ∈ X, Still N nx b) : ∀ b ∈ A ++ X, Still N nx b := by
  intro b hb
  rcases List.mem_append.1 hb with hb | hb
  · exact h b hb
  · exact k b hb

theorem do_err {L : List (Int × Int)} {kd d u : Int} {lic : Bool} (h : doE L false kd d u lic ≠ 0) : doL L false kd d u lic = L := by
  unfold doE at h
  unfold doL nL cL
  by_cases h0 : kd = 0
  · simp only [h0, if_true] at h ⊢; rw [if_neg h]
  by_cases h1 : kd = 1
  · simp only [h1, if_true] at h ⊢
    simp at h ⊢
    intro h2; exact absurd h2 h
  · simp only [h0, h1, if_false] at h ⊢; rw [if_neg h]

theorem do_ok0 {L : List (Int × Int)} {d u : Int} {lic : Bool} (h : doE L false 0 d u lic = 0) : doL L false 0 d u lic = L ++ [(d, u)] := by
  unfold doE at h
  unfold doL nL
  simp only [if_true] at h ⊢
  rw [if_pos h]
theorem do_ok1 {L : List (Int × Int)} {d u : Int} {lic : Bool} (h : doE L false 1 d u lic = 0) : lic = true ∧ doL L false 1 d u lic = L ++ [(d, w64 (-u))] := by
  unfold doE at h
  unfold doL nL
  simp at h ⊢
  exact ⟨(add_ok (mov_ok h).2.2).1, h⟩
theorem do_okc {L : List (Int × Int)} {kd d u : Int} {lic : Bool} (h0 : kd ≠ 0) (h1 : kd ≠ 1) (hn : L.length ≤ 1000000) (h : doE L false kd d u lic = 0) : 0 ≤ d ∧ d < L.length ∧ doL L false kd d u lic = corL L d u := by
  unfold doE at h
  unfold doL cL
  simp only [h0, h1, if_false] at h ⊢
  rw [if_pos h]
  have hc := (cor_ok h).2.1
  rw [inR_iff, w64_fit (by omega) (by omega)] at hc
  exact ⟨hc.1, by omega, rfl⟩
theorem corL_un (L : List (Int × Int)) (i u : Int) : (corL L i u).map un = (L.map un).set i.toNat (I u) := by
  unfold corL
  rw [List.map_set]; rfl

set_option maxHeartbeats 8000000 in
theorem loopK8 (r v to : Int) (up : Bool) (S : List Stp) (c0 : Cap) (k : Nat) (hS : S.length ≤ 12) (hk : 100 < k) : ∀ (R : List Stp) (n i id : Nat) (A : List ABlk) (L : List (Int × Int)) (c : Cap) (nx : Nat) (lv : List Nat) (s : List AV), slen s = 200 →
    s[4]? = some (.sl 4 (S.map stpv) c0) → s[5]? = some (I to) → s[13]? = some (B up) → s[14]? = some (.ref 0 0 0) → s[16]? = some (.own 1 id 0 L.length) → s[17]? = some (I i) →
    A[0]? = some (acc r v L c false) → A[id]? = some (.vec (L.map un) 1) → 0 < id → (∀ b ∈ A, Still 0 nx b) → AppOk nx lv c → Good L → L.length + R.length ≤ 20 → R.length < n → S.drop i = R →
    EndK (loopN [] (exec Try.prog cfg0 (den Try.prog cfg0 (k+9)) (k+9) 8 none [] (loopOf Try.f8 0)) n ⟨s, ⟨A, nx, lv, 0⟩, []⟩) r v to up := by
  intro R
  induction R with
  | nil =>
    intro n i id A L c nx lv s hs g4 g5 g13 g14 g16 g17 hA hV hid hst hc hg hl hn hR
    obtain ⟨n, rfl⟩ : ∃ n', n = n' + 1 := ⟨n - 1, by omega⟩
    have hi : ¬ ((i : Int) < S.length) := by
      have := congrArg List.length hR
      simp at this
      omega
    simp -implicitDefEqProofs [loopOf, loopsOf, codeOf, Try.f8, hi, g4, g5, g13, g14, g16, g17, hs]
    exact ⟨_, _, L, c, _, _, rfl, by simp [hs], by simp [g5], by simp [g13], by simp [g14], hA, hst, hc, hg, by simpa using hl⟩
  | cons p R ih =>
    intro n i id A L c nx lv s hs g4 g5 g13 g14 g16 g17 hA hV hid hst hc hg hl hn hR
    obtain ⟨n, rfl⟩ : ∃ n', n = n' + 1 := ⟨n - 1, by simp at hn; omega⟩
    have hi : i < S.length := by
      have := congrArg List.length hR
      simp at this
      omega
    have hi' : (i : Int) < S.length := by omega
    have hp : S[i]? = some p := by
      have := congrArg (fun l => l[0]?) hR
      simpa using this
    have hw : IntKind.i64.wrap ((i : Int) + 1) = ((i + 1 : Nat) : Int) := by rw [wrap_fit (by omega) (by omega)]; rfl
    have hA0 : 0 < A.length := (List.getElem?_eq_some_iff.1 hA).1
    have hidl : id < A.length := (List.getElem?_eq_some_iff.1 hV).1
    obtain ⟨kd, d, u, lic⟩ := p
    have hstx := still_app hst (X := [.arr [stpv (kd, d, u, lic)] 4]) (by intro b hb; simp at hb; subst hb; exact still_stp)
    have h11 := m11 0 ⟨A ++ [.arr [stpv (kd, d, u, lic)] 4], nx, lv, 0⟩ k r v kd d u L c false lic (fun b hb => (hstx b hb).mono (Nat.zero_le _)) hc (Nat.le_refl _) (by simp) (by rw [get_app_lt hA0]; exact hA) (by simp at hl; omega) (by simp at hl; omega) hg.1
    have hset : ∀ (y : ABlk) (X : List ABlk), (A ++ X).set 0 y = A.set 0 y ++ X := fun y X => set_app_lt hA0
    have hnx := do_le L false kd d u lic nx
    have hgd := hg.step kd d u lic
    have hcp := do_cap hc L false kd d u lic
    have hacc : Still 0 (doN L false kd d u lic nx) (acc r v (doL L false kd d u lic) (doC L c false kd d u lic nx) false) := still_acc hcp
    simp only [hset, stpv, stp] at h11
    generalize hA1 : A.set 0 (acc r v (doL L false kd d u lic) (doC L c false kd d u lic nx) false) = A1 at h11
    have hl1 : A1.length = A.length := by rw [← hA1]; simp
    have hst1 : ∀ b ∈ A1, Still 0 (doN L false kd d u lic nx) b := by
      rw [← hA1]; exact still_set (fun b hb => (hst b hb).le hnx) hacc
    have hV1 : ∀ X : List ABlk, (A1 ++ X)[id]? = some (.vec (L.map un) 1) := fun X => by
      rw [get_app_lt (by omega), ← hA1, List.getElem?_set_ne (by omega)]; exact hV
    have hA1' : ∀ X : List ABlk, (A1 ++ X)[0]? = some (acc r v (doL L false kd d u lic) (doC L c false kd d u lic nx) false) := fun X => by
      rw [get_app_lt (by omega), ← hA1, List.getElem?_set_self hA0]
    have hget := fun X : List ABlk => get_app_at (l := A1) (r := X) (n := A.length) hl1
    have hget1 := fun (X : List ABlk) (j : Nat) => get_app_at1 (l := A1) (r := X) (n := A.length) (k := j) hl1
    have hs0 := set_app_len (l := A) (r := [.arr [.agg [I 0, I 0, I 0, B false]] 4])
    have fin : ∀ (A2 : List ABlk) (L2 : List (Int × Int)) (c2 : Cap) (id2 nx2 : Nat) (lv2 : List Nat) (x : Option (AExit × St)), 0 < A2.length → A2[0]? = some (acc r v L2 c2 false) → A2[id2]? = some (.vec (L2.map un) 1) → 0 < id2 → (∀ b ∈ A2, Still 0 nx2 b) → AppOk nx2 lv2 c2 → Good L2 → L2.length + R.length ≤ 20 →
        EndM x (.exit 3) ⟨A2, nx2, lv2, 0⟩ 200 [(4, .sl 4 (S.map stpv) c0), (5, I to), (13, B up), (14, .ref 0 0 0), (16, .own 1 id2 0 L2.length), (17, I i), (20, I (sumP 0 L2))] →
        EndK (loopK [] (exec Try.prog cfg0 (den Try.prog cfg0 (k + 9)) (k + 9) 8 none [] (loopOf Try.f8 0)) n (seqK Try.prog cfg0 (den Try.prog cfg0 (k + 9)) (k + 9) 8 none [] (.region 8 (regionOf Try.f8 28) false) (blockK 1 (seqK Try.prog cfg0 (den Try.prog cfg0 (k + 9)) (k + 9) 8 none []
          ((Code.region 27 (regionOf Try.f8 26) false).seq (.cond (.tmp 120) ((Code.region 28 (regionOf Try.f8 27) false).seq .ret) .skip)) (blockK 3 x))))) r v to up := by
      intro A2 L2 c2 id2 nx2 lv2 x a1 a2 a3 a4 a5 a6 a7 a8 hE
      obtain ⟨s', rfl, hs', hkp⟩ := hE
      have q4 : s'[4]? = some (.sl 4 (S.map stpv) c0) := hkp (4, _) (by simp)
      have q5 : s'[5]? = some (I to) := hkp (5, _) (by simp)
      have q13 : s'[13]? = some (B up) := hkp (13, _) (by simp)
      have q14 : s'[14]? = some (.ref 0 0 0) := hkp (14, _) (by simp)
      have q16 : s'[16]? = some (.own 1 id2 0 L2.length) := hkp (16, _) (by simp)
      have q17 : s'[17]? = some (I i) := hkp (17, _) (by simp)
      have q20 : s'[20]? = some (I (sumP 0 L2)) := hkp (20, _) (by simp)
      have h13 := fun ro lv => p13 0 ⟨A2, nx2, lv, ro⟩ (k + 5) r v L2 c2 false a1 a2 (by omega) (by omega)
      have hsm := sumP_good L2 0 0 (by omega) (by omega) a7.2
      have hneg : ¬ sumP 0 L2 < 0 := by omega
      simp -implicitDefEqProofs [-loopN_succ, loopOf, loopsOf, regionOf, regionsOf, codeOf, Try.f8, q4, q5, q13, q14, q16, q17, q20, hs', h13, hneg, hw]
      exact ih n (i + 1) id2 A2 L2 c2 nx2 lv2 _ (by simp [hs']) (by simp [q4]) (by simp [q5]) (by simp [q13]) (by simp [q14]) (by simp [q16]) (by simp [hs']) a2 a3 a4 a5 a6 a7 a8 (by simp at hn; omega) (by rw [← List.drop_drop, hR]; rfl)
    by_cases he : doE L false kd d u lic = 0
    · by_cases hk0 : kd = 0
      · subst hk0
        have hL' := do_ok0 he
        rw [hL'] at hA1' hgd
        have hsetid := fun (y : ABlk) (X : List ABlk) => set_app_lt (l := A1) (r := X) (k := id) (x := y) (by omega)
        have hroom : roomFor (L.length + 1) 8 = true := by simp [roomFor]; simp at hl; omega
        have htake : List.take L.length (L.map un) = L.map un := List.take_of_length_le (by simp)
        rw [loopN_succ]
        simp -implicitDefEqProofs [-loopN_succ, loopOf, loopsOf, codeOf, Try.f8, hi', g4, g5, g13, g14, g16, g17, hs, hp, hs0, h11, he, stpv, stp, hget, hget1, hV1, hA1', appendVecReq, itemsM, hsetid, hl1, hroom, htake]
        generalize hx : loopN _ _ _ _ = x
        have b1 : (A1.set id .gone ++ [.arr [.agg [I 0, I d, I u, B lic]] 4, .vec [I (u)] 1, .vec (L.map un ++ [I (u)]) 1])[A.length + 2]? = some (.vec ((L ++ [(d, u)]).map un) 1) := by
          rw [get_app_at1 (by simp [hl1])]; simp [un]
        have b0 : (A1.set id .gone ++ [.arr [.agg [I 0, I d, I u, B lic]] 4, .vec [I (u)] 1, .vec (L.map un ++ [I (u)]) 1])[0]? = some (acc r v (L ++ [(d, u)]) (doC L c false 0 d u lic nx) false) := by
          rw [get_app_lt (by simp; omega), List.getElem?_set_ne (by omega)]
          have := hA1' []
          rwa [List.append_nil] at this
        have b2 : ∀ b ∈ (A1.set id .gone ++ [.arr [.agg [I 0, I d, I u, B lic]] 4, .vec [I (u)] 1, .vec (L.map un ++ [I (u)]) 1]), Still 0 (doN L false 0 d u lic nx) b := by
          refine still_app (still_set hst1 still_gone) ?_
          intro b hb
          simp at hb
          rcases hb with rfl | rfl | rfl
          · exact still_stp (x := (0, d, u, lic))
          · exact still_one
          · have := still_vec (nx := doN L false 0 d u lic nx) (L := L ++ [(d, u)])
            simpa [un] using this
        have hE : EndM x (.exit 3) ⟨A1.set id .gone ++ [.arr [.agg [I 0, I d, I u, B lic]] 4, .vec [I (u)] 1, .vec (L.map un ++ [I (u)]) 1], doN L false 0 d u lic nx, doV L c false 0 d u lic nx lv, 0⟩ 200 [(4, .sl 4 (S.map stpv) c0), (5, I to), (13, B up), (14, .ref 0 0 0), (16, .own 1 (A.length + 2) 0 (L.length + 1)), (17, I i), (20, I (sumP 0 (L ++ [(d, u)])))] := by
          rw [← hx]
          have hl := loopS (L ++ [(d, u)]) _ (doN L false 0 d u lic nx) (A.length + 2) (doV L c false 0 d u lic nx lv) (k + 8) (by simp; simp at hl; omega) b1 to up (.sl 4 (S.map stpv) c0) i (L ++ [(d, u)]) (k + 9) 0 0
          simp -implicitDefEqProofs [-loopN_succ, loopOf, loopsOf, codeOf, Try.f8] at hl
          exact hl _ (by simp [hs]) (by simp [g4]) (by simp [g5]) (by simp [g13]) (by simp [g14]) (by simp [hs]) (by simp [g17]) (by simp [hs]) (by simp [hs]) (by simp at *; omega)
        have hf := fin _ (L ++ [(d, u)]) (doC L c false 0 d u lic nx) (A.length + 2) _ _ x (by simp) b0 b1 (by omega) b2 hcp hgd (by simp at hl ⊢; omega) (by rw [List.length_append]; exact hE)
        simp -implicitDefEqProofs [-loopN_succ, loopOf, loopsOf, regionOf, regionsOf, codeOf, Try.f8] at hf
        exact hf
      by_cases hk1 : kd = 1
      · subst hk1
        obtain ⟨hlic, hL'⟩ := do_ok1 he
        subst hlic
        rw [hL'] at hA1' hgd
        have hsetid := fun (y : ABlk) (X : List ABlk) => set_app_lt (l := A1) (r := X) (k := id) (x := y) (by omega)
        have hroom : roomFor (L.length + 1) 8 = true := by simp [roomFor]; simp at hl; omega
        have htake : List.take L.length (L.map un) = L.map un := List.take_of_length_le (by simp)
        rw [loopN_succ]
        simp -implicitDefEqProofs [-loopN_succ, loopOf, loopsOf, codeOf, Try.f8, hi', g4, g5, g13, g14, g16, g17, hs, hp, hs0, h11, he, stpv, stp, hget, hget1, hV1, hA1', appendVecReq, itemsM, hsetid, hl1, hroom, htake]
        generalize hx : loopN _ _ _ _ = x
        have b1 : (A1.set id .gone ++ [.arr [.agg [I 1, I d, I u, B true]] 4, .vec [I (w64 (-u))] 1, .vec (L.map un ++ [I (w64 (-u))]) 1])[A.length + 2]? = some (.vec ((L ++ [(d, w64 (-u))]).map un) 1) := by
          rw [get_app_at1 (by simp [hl1])]; simp [un]
        have b0 : (A1.set id .gone ++ [.arr [.agg [I 1, I d, I u, B true]] 4, .vec [I (w64 (-u))] 1, .vec (L.map un ++ [I (w64 (-u))]) 1])[0]? = some (acc r v (L ++ [(d, w64 (-u))]) (doC L c false 1 d u true nx) false) := by
          rw [get_app_lt (by simp; omega), List.getElem?_set_ne (by omega)]
          have := hA1' []
          rwa [List.append_nil] at this
        have b2 : ∀ b ∈ (A1.set id .gone ++ [.arr [.agg [I 1, I d, I u, B true]] 4, .vec [I (w64 (-u))] 1, .vec (L.map un ++ [I (w64 (-u))]) 1]), Still 0 (doN L false 1 d u true nx) b := by
          refine still_app (still_set hst1 still_gone) ?_
          intro b hb
          simp at hb
          rcases hb with rfl | rfl | rfl
          · exact still_stp (x := (1, d, u, true))
          · exact still_one
          · have := still_vec (nx := doN L false 1 d u true nx) (L := L ++ [(d, w64 (-u))])
            simpa [un] using this
        have hE : EndM x (.exit 3) ⟨A1.set id .gone ++ [.arr [.agg [I 1, I d, I u, B true]] 4, .vec [I (w64 (-u))] 1, .vec (L.map un ++ [I (w64 (-u))]) 1], doN L false 1 d u true nx, doV L c false 1 d u true nx lv, 0⟩ 200 [(4, .sl 4 (S.map stpv) c0), (5, I to), (13, B up), (14, .ref 0 0 0), (16, .own 1 (A.length + 2) 0 (L.length + 1)), (17, I i), (20, I (sumP 0 (L ++ [(d, w64 (-u))])))] := by
          rw [← hx]
          have hl := loopS (L ++ [(d, w64 (-u))]) _ (doN L false 1 d u true nx) (A.length + 2) (doV L c false 1 d u true nx lv) (k + 8) (by simp; simp at hl; omega) b1 to up (.sl 4 (S.map stpv) c0) i (L ++ [(d, w64 (-u))]) (k + 9) 0 0
          simp -implicitDefEqProofs [-loopN_succ, loopOf, loopsOf, codeOf, Try.f8] at hl
          exact hl _ (by simp [hs]) (by simp [g4]) (by simp [g5]) (by simp [g13]) (by simp [g14]) (by simp [hs]) (by simp [g17]) (by simp [hs]) (by simp [hs]) (by simp at *; omega)
        have hf := fin _ (L ++ [(d, w64 (-u))]) (doC L c false 1 d u true nx) (A.length + 2) _ _ x (by simp) b0 b1 (by omega) b2 hcp hgd (by simp at hl ⊢; omega) (by rw [List.length_append]; exact hE)
        simp -implicitDefEqProofs [-loopN_succ, loopOf, loopsOf, regionOf, regionsOf, codeOf, Try.f8] at hf
        exact hf
      · obtain ⟨hd0, hd1, hL'⟩ := do_okc hk0 hk1 (by simp at hl; omega) he
        rw [hL'] at hA1' hgd
        have hsetid := fun (y : ABlk) (X : List ABlk) => set_app_lt (l := A1) (r := X) (k := id) (x := y) (by omega)
        have hd2 : ¬ d < 0 := by omega
        have hd3 : ¬ (L.length : Int) ≤ d := by omega
        obtain ⟨q, hq⟩ : ∃ q, L[d.toNat]? = some q := ⟨_, List.getElem?_eq_getElem (by omega)⟩
        rw [loopN_succ]
        simp -implicitDefEqProofs [-loopN_succ, loopOf, loopsOf, codeOf, Try.f8, hi', g4, g5, g13, g14, g16, g17, hs, hp, hs0, h11, he, stpv, stp, hget, hget1, hV1, hA1', hsetid, hl1, hk0, hk1, hd0, hd1, hd2, hd3, hq, un]
        generalize hx : loopN _ _ _ _ = x
        have b1 : (A1.set id (.vec ((L.map un).set d.toNat (I u)) 1) ++ [.arr [.agg [I kd, I d, I u, B lic]] 4])[id]? = some (.vec ((corL L d u).map un) 1) := by
          rw [get_app_lt (by simp; omega), List.getElem?_set_self (by omega), corL_un]
        have b0 : (A1.set id (.vec ((L.map un).set d.toNat (I u)) 1) ++ [.arr [.agg [I kd, I d, I u, B lic]] 4])[0]? = some (acc r v (corL L d u) (doC L c false kd d u lic nx) false) := by
          rw [get_app_lt (by simp; omega), List.getElem?_set_ne (by omega)]
          have := hA1' []
          rwa [List.append_nil] at this
        have b2 : ∀ b ∈ (A1.set id (.vec ((L.map un).set d.toNat (I u)) 1) ++ [.arr [.agg [I kd, I d, I u, B lic]] 4]), Still 0 (doN L false kd d u lic nx) b := by
          refine still_app (still_set hst1 ?_) ?_
          · rw [← corL_un]; exact still_vec
          intro b hb
          simp at hb
          subst hb
          exact still_stp (x := (kd, d, u, lic))
        have hE : EndM x (.exit 3) ⟨A1.set id (.vec ((L.map un).set d.toNat (I u)) 1) ++ [.arr [.agg [I kd, I d, I u, B lic]] 4], doN L false kd d u lic nx, doV L c false kd d u lic nx lv, 0⟩ 200 [(4, .sl 4 (S.map stpv) c0), (5, I to), (13, B up), (14, .ref 0 0 0), (16, .own 1 id 0 L.length), (17, I i), (20, I (sumP 0 (corL L d u)))] := by
          rw [← hx]
          have hl := loopS (corL L d u) _ (doN L false kd d u lic nx) id (doV L c false kd d u lic nx lv) (k + 8) (by rw [corL_len]; simp at hl; omega) b1 to up (.sl 4 (S.map stpv) c0) i (corL L d u) (k + 9) 0 0
          rw [corL_len] at hl
          simp -implicitDefEqProofs [-loopN_succ, loopOf, loopsOf, codeOf, Try.f8] at hl
          exact hl _ (by simp [hs]) (by simp [g4]) (by simp [g5]) (by simp [g13]) (by simp [g14]) (by simp [g16]) (by simp [g17]) (by simp [hs]) (by simp [hs]) (by simp at *; omega)
        have hf := fin _ (corL L d u) (doC L c false kd d u lic nx) id _ _ x (by simp) b0 b1 hid b2 hcp hgd (by rw [corL_len]; simp at hl ⊢; omega) (by rw [corL_len]; exact hE)
        simp -implicitDefEqProofs [-loopN_succ, loopOf, loopsOf, regionOf, regionsOf, codeOf, Try.f8] at hf
        exact hf
    · have hL' : doL L false kd d u lic = L := do_err he
      rw [hL'] at hA1' hgd
      rw [loopN_succ]
      simp -implicitDefEqProofs [-loopN_succ, loopOf, loopsOf, codeOf, Try.f8, hi', g4, g5, g13, g14, g16, g17, hs, hp, hs0, h11, he, stpv, stp, hget, hget1, hV1, hA1']
      generalize hx : loopN _ _ _ _ = x
      have hE : EndM x (.exit 3) ⟨A1 ++ [.arr [.agg [I kd, I d, I u, B lic]] 4], doN L false kd d u lic nx, doV L c false kd d u lic nx lv, 0⟩ 200 [(4, .sl 4 (S.map stpv) c0), (5, I to), (13, B up), (14, .ref 0 0 0), (16, .own 1 id 0 L.length), (17, I i), (20, I (sumP 0 L))] := by
        rw [← hx]
        have hl := loopS L (A1 ++ [.arr [.agg [I kd, I d, I u, B lic]] 4]) (doN L false kd d u lic nx) id (doV L c false kd d u lic nx lv) (k + 8) (by omega) (hV1 _) to up (.sl 4 (S.map stpv) c0) i L (k + 9) 0 0
        simp -implicitDefEqProofs [-loopN_succ, loopOf, loopsOf, codeOf, Try.f8] at hl
        exact hl _ (by simp [hs]) (by simp [g4]) (by simp [g5]) (by simp [g13]) (by simp [g14]) (by simp [g16]) (by simp [g17]) (by simp [hs]) (by simp [hs]) (by omega)
      have hf := fin _ L (doC L c false kd d u lic nx) id _ _ x (by simp) (hA1' _) (hV1 _) hid (still_app hst1 (X := [.arr [.agg [I kd, I d, I u, B lic]] 4]) (by intro b hb; simp at hb; subst hb; exact still_stp (x := (kd, d, u, lic)))) hcp hgd (by simp at hl; omega) hE
      simp -implicitDefEqProofs [-loopN_succ, loopOf, loopsOf, regionOf, regionsOf, codeOf, Try.f8] at hf
      exact hf
end Go.Den
