/-
  The program's account and the reference's, side by side: a step. Conditions: as each statement says.
-/
import Derived.Test.YtnnajbbmgponpaaDenP3
import Derived.Test.YtnnajbbmgponpaaDenF19
namespace Go.Den
open Go.Proofs
set_option linter.unusedSimpArgs false
set_option linter.unusedVariables false

theorem still_accR {N nx : Nat} {r v : Int} {sid n : Nat} {cl : Bool} (h : sid < N) : Still N nx (accR r v sid n cl) := by
  intro m' n' nx' hN _
  simp [accR, conv_own_lt (Nat.lt_of_lt_of_le h hN)]
theorem still_mvs {N nx : Nat} {M : List (Int × Int)} : Still N nx (.vec (M.map mv) 2) := by
  intro m n nx' _ _
  have hm : M.map (conv m n nx' ∘ mv) = M.map mv := List.map_congr_left fun q _ => conv_mv m n nx' q
  simp [hm]
theorem still_gone' {N nx : Nat} : Still N nx .gone := by
  intro m n nx' _ _
  simp
theorem still_stp' {N nx : Nat} {x : Stp} : Still N nx (.arr [stpv x] 4) := by
  intro m n nx' _ _
  simp [stpv, stp]

/-- Both accounts lie in a memory. -/
structure Both (A : List ABlk) (nx : Nat) (lv : List Nat) (r v d : Int) (L : List (Int × Int)) (c : Cap) (sid : Nat) : Prop where
  acc : A[0]? = some (acc r v L c false)
  ref : AtR A 1 sid r v L false
  st : ∀ b ∈ A, Still A.length nx b
  cap : AppOk nx lv c
  good : Good L
  day : (L.headD (0, 0)).1 = d

theorem moved_st {A : List ABlk} {nx : Nat} (hst : ∀ b ∈ A, Still A.length nx b) (r v : Int) (sid : Nat) (L : List (Int × Int)) (p : Int × Int) : ∀ b ∈ movedR A 1 sid r v L p, Still (movedR A 1 sid r v L p).length nx b := by
  have hlen : (movedR A 1 sid r v L p).length = A.length + 2 := by simp [movedR]
  rw [hlen]
  have h0 : ∀ b ∈ A, Still (A.length + 2) nx b := fun b hb => (hst b hb).mono (by omega)
  unfold movedR
  refine still_app (still_set (still_set h0 still_gone') (still_accR (by omega))) ?_
  intro b hb
  simp at hb
  rcases hb with rfl | rfl
  · exact still_mvs (M := [p])
  · have := still_mvs (N := A.length + 2) (nx := nx) (M := L ++ [p])
    simpa using this

theorem head_app {L : List (Int × Int)} (h : L ≠ []) (p : Int × Int) : ((L ++ [p]).headD (0, 0)) = L.headD (0, 0) := by
  cases L with
  | nil => exact absurd rfl h
  | cons q L => rfl
theorem head_cor {L : List (Int × Int)} (i u : Int) : ((corL L i u).headD (0, 0)).1 = (L.headD (0, 0)).1 := by
  have := corL_days L i u
  cases L with
  | nil => simp [corL]
  | cons q L =>
    cases hc : corL (q :: L) i u with
    | nil => rw [hc] at this; simp at this
    | cons q' L' => rw [hc] at this; simp at this; exact this.1

set_option maxHeartbeats 1000000 in
theorem both_step {A : List ABlk} {nx : Nat} {lv : List Nat} {r v d0 : Int} {L : List (Int × Int)} {c : Cap} {sid : Nat} (h : Both A nx lv r v d0 L c sid) (x : Stp) (k : Nat) (hn : L.length ≤ 100) (hk : 100 < k) :
    ∃ A1 A2 sid', mcall (den Try.prog cfg0 (k+9)) 11 [.ref 0 0 0, stpv x] ⟨A, nx, lv, 0⟩ = some (I (doE L false x.1 x.2.1 x.2.2.1 x.2.2.2), ⟨A1, doN L false x.1 x.2.1 x.2.2.1 x.2.2.2 nx, doV L c false x.1 x.2.1 x.2.2.1 x.2.2.2 nx lv, 0⟩) ∧
      den Try.prog cfg0 (k+9) (.call 17 [.ref 1 0 0, stpv x]) ⟨A1, doN L false x.1 x.2.1 x.2.2.1 x.2.2.2 nx, doV L c false x.1 x.2.1 x.2.2.1 x.2.2.2 nx lv, 0⟩ = some (I (doE L false x.1 x.2.1 x.2.2.1 x.2.2.2), ⟨A2, doN L false x.1 x.2.1 x.2.2.1 x.2.2.2 nx, doV L c false x.1 x.2.1 x.2.2.1 x.2.2.2 nx lv, 0⟩) ∧
      Both A2 (doN L false x.1 x.2.1 x.2.2.1 x.2.2.2 nx) (doV L c false x.1 x.2.1 x.2.2.1 x.2.2.2 nx lv) r v d0 (doL L false x.1 x.2.1 x.2.2.1 x.2.2.2) (doC L c false x.1 x.2.1 x.2.2.1 x.2.2.2 nx) sid' := by
  obtain ⟨hA, hR, hst, hc, hg, hd⟩ := h
  obtain ⟨kd, d, u, lic⟩ := x
  have hA0 : 0 < A.length := (List.getElem?_eq_some_iff.1 hA).1
  have hl := hR.lt
  have hs0 : 0 ≠ sid := by
    rintro rfl
    rw [hR.vec] at hA
    simp [Den.acc] at hA
  have hcp := do_cap hc L false kd d u lic
  have hgd := hg.step kd d u lic
  have hnx := do_le L false kd d u lic nx
  have h11 := m11 0 ⟨A, nx, lv, 0⟩ k r v kd d u L c false lic hst hc (Nat.le_refl _) hA0 hA (by omega) (by omega) hg.1
  simp only at h11 ⊢
  have hst1 : ∀ b ∈ A.set 0 (Den.acc r v (doL L false kd d u lic) (doC L c false kd d u lic nx) false), Still (A.set 0 (Den.acc r v (doL L false kd d u lic) (doC L c false kd d u lic nx) false)).length (doN L false kd d u lic nx) b := by
    rw [List.length_set]
    exact still_set (fun b hb => (hst b hb).le hnx) (still_acc hcp)
  have hR1 : AtR (A.set 0 (Den.acc r v (doL L false kd d u lic) (doC L c false kd d u lic nx) false)) 1 sid r v L false :=
    ⟨by rw [List.getElem?_set_ne (by omega)]; exact hR.acc, by rw [List.getElem?_set_ne hs0]; exact hR.vec⟩
  have hA1 : (A.set 0 (Den.acc r v (doL L false kd d u lic) (doC L c false kd d u lic nx) false))[0]? = some (Den.acc r v (doL L false kd d u lic) (doC L c false kd d u lic nx) false) := List.getElem?_set_self hA0
  generalize A.set 0 (Den.acc r v (doL L false kd d u lic) (doC L c false kd d u lic nx) false) = A1 at h11 hst1 hR1 hA1
  have hl1 := hR1.lt
  have h17 := d17 1 sid ⟨A1, doN L false kd d u lic nx, doV L c false kd d u lic nx lv, 0⟩ (k + 6) r v (kd, d, u, lic) L false hst1 hR1 (Nat.zero_le _) (Nat.zero_le _) (by omega) (by omega) hg.1
  simp only [doR_eq hg] at h17
  have hstx : ∀ b ∈ A1 ++ [ABlk.arr [stpv (kd, d, u, lic)] 4], Still (A1 ++ [ABlk.arr [stpv (kd, d, u, lic)] 4]).length (doN L false kd d u lic nx) b := by
    refine still_app (fun b hb => (hst1 b hb).mono (by simp)) ?_
    intro b hb
    simp at hb
    subst hb
    exact still_stp'
  have hRx := hR1.app [ABlk.arr [stpv (kd, d, u, lic)] 4]
  have hAx : (A1 ++ [ABlk.arr [stpv (kd, d, u, lic)] 4])[0]? = some (Den.acc r v (doL L false kd d u lic) (doC L c false kd d u lic nx) false) := by
    rw [get_app_lt (by omega)]; exact hA1
  have hm0 : ∀ p, (movedR (A1 ++ [ABlk.arr [stpv (kd, d, u, lic)] 4]) 1 sid r v L p)[0]? = some (Den.acc r v (doL L false kd d u lic) (doC L c false kd d u lic nx) false) := by
    intro p
    unfold movedR
    rw [get_app_lt (by simp), List.getElem?_set_ne (by omega), List.getElem?_set_ne (Ne.symm hs0)]
    exact hAx
  refine ⟨A1, dosR A1 1 sid r v L false (kd, d, u, lic), ?_⟩
  by_cases he : doE L false kd d u lic = 0
  · by_cases h0 : kd = 0
    · subst h0
      have hL := do_ok0 he
      refine ⟨(A1 ++ [ABlk.arr [stpv (0, d, u, lic)] 4]).length + 1, h11, h17, ?_⟩
      have e : dosR A1 1 sid r v L false (0, d, u, lic) = movedR (A1 ++ [ABlk.arr [stpv (0, d, u, lic)] 4]) 1 sid r v L (d, u) := by
        unfold dosR
        simp only [doR_eq hg]
        rw [if_pos he, if_pos trivial]
      rw [e]
      exact ⟨hm0 _, by rw [hL]; exact movedR_at hRx _, moved_st hstx r v sid L _, hcp, hgd, by rw [hL, head_app hg.1]; exact hd⟩
    by_cases h1 : kd = 1
    · subst h1
      obtain ⟨_, hL⟩ := do_ok1 he
      refine ⟨(A1 ++ [ABlk.arr [stpv (1, d, u, lic)] 4]).length + 1, h11, h17, ?_⟩
      have e : dosR A1 1 sid r v L false (1, d, u, lic) = movedR (A1 ++ [ABlk.arr [stpv (1, d, u, lic)] 4]) 1 sid r v L (d, w64 (-u)) := by
        unfold dosR
        simp only [doR_eq hg]
        rw [if_pos he, if_neg (by omega), if_pos trivial]
      rw [e]
      exact ⟨hm0 _, by rw [hL]; exact movedR_at hRx _, moved_st hstx r v sid L _, hcp, hgd, by rw [hL, head_app hg.1]; exact hd⟩
    obtain ⟨_, _, hL⟩ := do_okc h0 h1 (by omega) he
    refine ⟨sid, h11, h17, ?_⟩
    have e : dosR A1 1 sid r v L false (kd, d, u, lic) = (A1 ++ [ABlk.arr [stpv (kd, d, u, lic)] 4]).set sid (.vec ((corL L d u).map mv) 2) := by
      unfold dosR
      simp only [doR_eq hg]
      rw [if_pos he, if_neg h0, if_neg h1]
    rw [e]
    refine ⟨by rw [List.getElem?_set_ne (Ne.symm hs0)]; exact hAx, ⟨?_, ?_⟩, ?_, hcp, hgd, by rw [hL, head_cor]; exact hd⟩
    · rw [List.getElem?_set_ne (Ne.symm hl1.2.2), hL, corL_len]; exact hRx.acc
    · rw [List.getElem?_set_self (by simp; omega), hL]
    · rw [List.length_set]; exact still_set hstx still_mvs
  · have hL := do_err he
    refine ⟨sid, h11, h17, ?_⟩
    have e : dosR A1 1 sid r v L false (kd, d, u, lic) = A1 ++ [ABlk.arr [stpv (kd, d, u, lic)] 4] := by
      unfold dosR
      simp only [doR_eq hg]
      rw [if_neg he]
    rw [e]
    exact ⟨hAx, by rw [hL]; exact hRx, hstx, hcp, hgd, by rw [hL]; exact hd⟩
end Go.Den
