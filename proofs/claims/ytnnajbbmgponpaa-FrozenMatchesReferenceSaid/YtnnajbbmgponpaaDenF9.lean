/-
  Money is received and moved. Conditions: as each statement says.
-/
import Derived.Test.YtnnajbbmgponpaaDenF7
namespace Go.Den
open Go.Proofs
set_option linter.unusedSimpArgs false

/-- A block that stays as it is when what is behind it is forgotten. -/
def Still (N nx : Nat) (b : ABlk) : Prop := ∀ m n nx', N ≤ n → nx ≤ nx' → convBlk (conv m n nx') b = b
theorem still_map {N n nx : Nat} {B : List ABlk} (h : ∀ b ∈ B, Still N nx b) (hN : N ≤ n) (m : AMem) {nx' : Nat} (hx : nx ≤ nx') : B.map (convBlk (conv m n nx')) = B := by
  induction B with
  | nil => rfl
  | cons b B ih =>
    rw [List.map_cons, h b (by simp) m n nx' hN hx, ih (fun x hx => h x (by simp [hx]))]
theorem shrink_still {B J : List ABlk} {nx : Nat} {lv : List Nat} {ro n : Nat} (hn : B.length = n) (h : ∀ b ∈ B, Still n nx b) : (⟨B ++ J, nx, lv, ro⟩ : AMem).shrink n = ⟨B, nx, lv, ro⟩ := by
  subst hn
  simp only [AMem.shrink]
  rw [List.take_left, still_map (nx := nx) (fun b hb => h b (List.mem_of_mem_drop hb)) (Nat.le_refl _) _ (Nat.le_refl _)]
  congr 1
  rw [List.take_append_of_le_length (by omega), List.take_append_drop]
theorem shrink_over {A X : List ABlk} {nx : Nat} {lv : List Nat} {ro n : Nat} (hro : ro ≤ A.length) (hn : A.length ≤ n) (h : ∀ b ∈ A, Still A.length nx b) : (⟨A ++ X, nx, lv, ro⟩ : AMem).shrink n = ⟨A ++ (X.take (n - A.length)).map (convBlk (conv ⟨A ++ X, nx, lv, ro⟩ n nx)), nx, lv, ro⟩ := by
  simp only [AMem.shrink, Nat.min_eq_left (Nat.le_trans hro hn)]
  rw [List.take_append, List.take_append, List.drop_append, List.map_append, List.take_of_length_le hn, still_map (nx := nx) (fun b hb => h b (List.mem_of_mem_drop hb)) hn _ (Nat.le_refl _), ← List.append_assoc, List.append_assoc (A.take ro)]
  simp [Nat.sub_eq_zero_of_le hro]
theorem shrink_same {B : List ABlk} {nx : Nat} {lv : List Nat} {ro n : Nat} (hn : B.length = n) (h : ∀ b ∈ B, Still n nx b) : (⟨B, nx, lv, ro⟩ : AMem).shrink n = ⟨B, nx, lv, ro⟩ := by
  have := shrink_still (J := []) (lv := lv) (ro := ro) hn h
  rwa [List.append_nil] at this
theorem Still.le {N nx nx' : Nat} {b : ABlk} (h : Still N nx b) (hx : nx ≤ nx') : Still N nx' b := fun m n y hN hy => h m n y hN (Nat.le_trans hx hy)
theorem Still.mono {N N' nx : Nat} {b : ABlk} (h : Still N nx b) (hx : N ≤ N') : Still N' nx b := fun m n y hN hy => h m n y (Nat.le_trans hx hN) hy
theorem still_acc {N nx : Nat} {lv : List Nat} {r v : Int} {L : List (Int × Int)} {c : Cap} {cl : Bool} (hc : AppOk nx lv c) : Still N nx (acc r v L c cl) := by
  intro m n nx' _ hx
  have : convCap nx' c = c := by
    cases c with
    | no => exact hc.elim
    | tight => rfl
    | tok t => simp [convCap, Nat.lt_of_lt_of_le hc.2 hx]
  have hm : L.map (conv m n nx' ∘ mv) = L.map mv := List.map_congr_left fun q _ => conv_mv m n nx' q
  simp [acc, this, hm]
theorem still_set {N nx : Nat} {B : List ABlk} {id : Nat} {b : ABlk} (h : ∀ b ∈ B, Still N nx b) (hb : Still N nx b) : ∀ x ∈ B.set id b, Still N nx x := by
  intro x hx
  rcases List.mem_or_eq_of_mem_set hx with h' | rfl
  · exact h x h'
  · exact hb
theorem set_self {B : List ABlk} {id : Nat} {b : ABlk} (h : B[id]? = some b) : B.set id b = B := by
  obtain ⟨hi, rfl⟩ := List.getElem?_eq_some_iff.1 h
  exact List.set_getElem_self hi

/-- The state behind a movement with an error e. -/
def nCap (e : Int) (c : Cap) (nx : Nat) : Cap := if e = 0 then .tok nx else c
def nNx (e : Int) (nx : Nat) : Nat := if e = 0 then nx + 1 else nx
def nLv (e : Int) (c : Cap) (nx : Nat) (lv : List Nat) : List Nat := if e = 0 then nx :: dropTok c lv else lv
def nL (e : Int) (L : List (Int × Int)) (p : Int × Int) : List (Int × Int) := if e = 0 then L ++ [p] else L

theorem m41 (id : Nat) (m : AMem) (k : Nat) (r v d u : Int) (L : List (Int × Int)) (c : Cap) (cl lic : Bool) (hst : ∀ b ∈ m.blks, Still m.blks.length m.next b) (hc : AppOk m.next m.live c) (hro : m.ro ≤ id) (hid : id < m.blks.length) (h : m.blks[id]? = some (acc r v L c cl)) (hn : L.length ≤ 1000000) (hk : L.length < k) (hL : L ≠ []) :
    mcall (den Try.prog cfg0 (k+7)) 41 [.ref id 0 0, I d, I u, B lic] m = some (I (addE L cl d u lic), ⟨m.blks.set id (acc r v (nL (addE L cl d u lic) L (d, u)) (nCap (addE L cl d u lic) c m.next) cl), nNx (addE L cl d u lic) m.next, nLv (addE L cl d u lic) c m.next m.live, m.ro⟩) := by
  rw [mcall_of (d41 id m k r v d u L c cl lic hc hro hid h hn hk hL), conv_v]
  by_cases he : addE L cl d u lic = 0
  · simp only [nL, nCap, nNx, nLv, he, if_true]
    rw [shrink_still (by simp) (still_set (fun b hb => (hst b hb).le (Nat.le_succ _)) (still_acc (lv := [m.next]) (show AppOk (m.next + 1) [m.next] (.tok m.next) from ⟨by simp, by omega⟩)))]
  · simp only [nL, nCap, nNx, nLv, if_neg he]
    rw [shrink_still rfl hst, set_self h]

/-- The error of Receive, of Move. -/
def rcvE (L : List (Int × Int)) (cl : Bool) (d u : Int) : Int := if inR d 0 100000 && inR u 1 1000000000000 then addE L cl d u true else 1
def movE (L : List (Int × Int)) (cl : Bool) (d u : Int) (lic : Bool) : Int := if inR d 0 100000 && inR u 1 1000000000000 then addE L cl d (w64 (-u)) lic else 1

theorem nL_no {e : Int} (he : e ≠ 0) (L : List (Int × Int)) (p : Int × Int) : nL e L p = L := if_neg he

theorem m22 (id : Nat) (m : AMem) (k : Nat) (r v d u : Int) (L : List (Int × Int)) (c : Cap) (cl : Bool) (hst : ∀ b ∈ m.blks, Still m.blks.length m.next b) (hc : AppOk m.next m.live c) (hro : m.ro ≤ id) (hid : id < m.blks.length) (h : m.blks[id]? = some (acc r v L c cl)) (hn : L.length ≤ 1000000) (hk : L.length < k) (hL : L ≠ []) :
    mcall (den Try.prog cfg0 (k+8)) 22 [.ref id 0 0, I d, I u] m = some (I (rcvE L cl d u), ⟨m.blks.set id (acc r v (nL (rcvE L cl d u) L (d, u)) (nCap (rcvE L cl d u) c m.next) cl), nNx (rcvE L cl d u) m.next, nLv (rcvE L cl d u) c m.next m.live, m.ro⟩) := by
  have h41 := m41 id m k r v d u L c cl true hst hc hro hid h hn hk hL
  have hd : den Try.prog cfg0 (k+8) (.call 22 [.ref id 0 0, I d, I u]) m = some (I (rcvE L cl d u), ⟨m.blks.set id (acc r v (nL (rcvE L cl d u) L (d, u)) (nCap (rcvE L cl d u) c m.next) cl), nNx (rcvE L cl d u) m.next, nLv (rcvE L cl d u) c m.next m.live, m.ro⟩) := by
    rw [den_call Try.func22 rfl]
    cases h1 : inR d 0 100000
    · simp -implicitDefEqProofs [Try.f22, h1, rcvE, nL, nCap, nNx, nLv, set_self h]
    cases h2 : inR u 1 1000000000000
    · simp -implicitDefEqProofs [Try.f22, h1, h2, rcvE, nL, nCap, nNx, nLv, set_self h]
    simp -implicitDefEqProofs [Try.f22, h1, h2, rcvE, h41]
  rw [mcall_of hd, conv_v]
  rw [shrink_same (by simp)]
  by_cases he : rcvE L cl d u = 0
  · simp only [nL, nCap, nNx, he, if_true]
    exact still_set (fun b hb => (hst b hb).le (Nat.le_succ _)) (still_acc (lv := [m.next]) (show AppOk (m.next + 1) [m.next] (.tok m.next) from ⟨by simp, by omega⟩))
  · simp only [nL, nCap, nNx, if_neg he]
    exact still_set hst (still_acc hc)

theorem m23 (id : Nat) (m : AMem) (k : Nat) (r v d u : Int) (L : List (Int × Int)) (c : Cap) (cl lic : Bool) (hst : ∀ b ∈ m.blks, Still m.blks.length m.next b) (hc : AppOk m.next m.live c) (hro : m.ro ≤ id) (hid : id < m.blks.length) (h : m.blks[id]? = some (acc r v L c cl)) (hn : L.length ≤ 1000000) (hk : L.length < k) (hL : L ≠ []) :
    mcall (den Try.prog cfg0 (k+8)) 23 [.ref id 0 0, I d, I u, B lic] m = some (I (movE L cl d u lic), ⟨m.blks.set id (acc r v (nL (movE L cl d u lic) L (d, w64 (-u))) (nCap (movE L cl d u lic) c m.next) cl), nNx (movE L cl d u lic) m.next, nLv (movE L cl d u lic) c m.next m.live, m.ro⟩) := by
  have h41 := m41 id m k r v d (w64 (-u)) L c cl lic hst hc hro hid h hn hk hL
  have hd : den Try.prog cfg0 (k+8) (.call 23 [.ref id 0 0, I d, I u, B lic]) m = some (I (movE L cl d u lic), ⟨m.blks.set id (acc r v (nL (movE L cl d u lic) L (d, w64 (-u))) (nCap (movE L cl d u lic) c m.next) cl), nNx (movE L cl d u lic) m.next, nLv (movE L cl d u lic) c m.next m.live, m.ro⟩) := by
    rw [den_call Try.func23 rfl]
    cases h1 : inR d 0 100000
    · simp -implicitDefEqProofs [Try.f23, h1, movE, nL, nCap, nNx, nLv, set_self h]
    cases h2 : inR u 1 1000000000000
    · simp -implicitDefEqProofs [Try.f23, h1, h2, movE, nL, nCap, nNx, nLv, set_self h]
    simp -implicitDefEqProofs [Try.f23, h1, h2, movE, h41]
  rw [mcall_of hd, conv_v]
  rw [shrink_same (by simp)]
  by_cases he : movE L cl d u lic = 0
  · simp only [nL, nCap, nNx, he, if_true]
    exact still_set (fun b hb => (hst b hb).le (Nat.le_succ _)) (still_acc (lv := [m.next]) (show AppOk (m.next + 1) [m.next] (.tok m.next) from ⟨by simp, by omega⟩))
  · simp only [nL, nCap, nNx, if_neg he]
    exact still_set hst (still_acc hc)
end Go.Den
