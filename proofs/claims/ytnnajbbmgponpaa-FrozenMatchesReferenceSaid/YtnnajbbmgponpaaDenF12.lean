/-
  Units are corrected, an account is released: the calls. Conditions: as each statement says.
-/
import Derived.Test.YtnnajbbmgponpaaDenF11
namespace Go.Den
open Go.Proofs
set_option linter.unusedSimpArgs false

theorem shrink_set {B J : List ABlk} {X Y : ABlk} {nx : Nat} {lv : List Nat} {ro n id : Nat} (hn : B.length = n) (hro : ro ≤ id) (hid : id < n) (h : ∀ b ∈ B, Still n nx b) (hX : convBlk (conv ⟨B.set id X ++ J, nx, lv, ro⟩ n nx) X = Y) :
    (⟨B.set id X ++ J, nx, lv, ro⟩ : AMem).shrink n = ⟨B.set id Y, nx, lv, ro⟩ := by
  subst hn
  simp only [AMem.shrink]
  have e1 : min ro B.length = ro := by omega
  have t1 : (B.set id X ++ J).take ro = B.take ro := by rw [List.take_append_of_le_length (by simp; omega), List.take_set_of_le (by omega)]
  have t2 : (B.set id X ++ J).take B.length = B.set id X := List.take_left' (by simp)
  rw [e1, t1, t2, List.drop_set, if_neg (by omega), List.map_set, hX, still_map (fun b hb => h b (List.mem_of_mem_drop hb)) (Nat.le_refl _) _ (Nat.le_refl _)]
  congr 1
  have h2 := List.set_append_right (s := B.take ro) (t := B.drop ro) id Y (by simp; omega)
  rw [List.take_append_drop] at h2
  rw [h2]
  simp [Nat.min_eq_left (show ro ≤ B.length by omega)]

theorem convN_mv (m : AMem) (n nx k : Nat) (q : Int × Int) : convN m n nx (k + 1) (mv q) = mv q := by
  simp only [mv, convN, conv1, convs]

theorem conv_own_ge {m : AMem} {n nx z id off k sz : Nat} {es : List AV} (h : n ≤ id) (hb : m.blks[id]? = some (.arr es sz)) (hk : off + k ≤ es.length) : conv m n nx (.own z id off k) = .sl sz (((es.drop off).take k).map (convN m n nx 2)) (if off = 0 && k = es.length then .tight else .no) := by
  simp only [conv, convN, conv1]
  rw [if_neg (by omega), hb]
  simp only [if_pos hk]

def cL (e : Int) (L : List (Int × Int)) (i u : Int) : List (Int × Int) := if e = 0 then corL L i u else L
def cCap (e : Int) (c : Cap) : Cap := if e = 0 then .tight else c

theorem AppOk.conv {nx : Nat} {lv : List Nat} {c : Cap} (h : AppOk nx lv c) : convCap nx c = c := by
  cases c with
  | no => exact h.elim
  | tight => rfl
  | tok t => simp [convCap, h.2]

theorem m14 (id : Nat) (m : AMem) (k : Nat) (r v i u : Int) (L : List (Int × Int)) (c : Cap) (cl : Bool) (hst : ∀ b ∈ m.blks, Still m.blks.length m.next b) (hc : AppOk m.next m.live c) (hro : m.ro ≤ id) (hid : id < m.blks.length) (h : m.blks[id]? = some (acc r v L c cl)) (hn : L.length ≤ 1000000) (hk : L.length < k) :
    mcall (den Try.prog cfg0 (k+6)) 14 [.ref id 0 0, I i, I u] m = some (I (corE L cl i u), ⟨m.blks.set id (acc r v (cL (corE L cl i u) L i u) (cCap (corE L cl i u) c) cl), m.next, m.live, m.ro⟩) := by
  have hX : ∀ X : List ABlk, (m.blks ++ X)[id]? = some (acc r v L c cl) := fun X => by rw [get_app_lt hid]; exact h
  have e1 := fun X x l nx => p29 id ⟨m.blks ++ X, nx, l, x⟩ (k + 3) r v L c cl (hX X)
  have h28 := fun X x l nx => p28a ⟨m.blks ++ X, nx, l, x⟩ (k + 1) 29 [.ref id 0 0] (if cl then 29 else 0) rfl (by intro x l nx; simpa using e1 X x l nx)
  have hro' : m.ro ≤ m.blks.length := by omega
  have hw : w64 ((L.length : Int) - 1) = L.length - 1 := wrap_fit (by omega) (by omega)
  have herr : ∀ e : Int, e ≠ 0 → corE L cl i u = e → (∃ J, den Try.prog cfg0 (k+6) (.call 14 [.ref id 0 0, I i, I u]) m = some (I e, ⟨m.blks ++ J, m.next, m.live, m.ro⟩)) → mcall (den Try.prog cfg0 (k+6)) 14 [.ref id 0 0, I i, I u] m = some (I (corE L cl i u), ⟨m.blks.set id (acc r v (cL (corE L cl i u) L i u) (cCap (corE L cl i u) c) cl), m.next, m.live, m.ro⟩) := by
    intro e he hE ⟨J, hJ⟩
    rw [mcall_of hJ, conv_v, hE]
    simp only [cL, cCap, if_neg he]
    rw [shrink_still rfl hst, set_self h]
  cases hu : inR u (-1000000000000) 1000000000000
  · refine herr 1 (by omega) (by simp [corE, hu]) ⟨[.arr [I 1] 1], ?_⟩
    rw [den_call Try.func14 rfl]
    simp -implicitDefEqProofs [Try.f14, hro', hu]
  cases cl
  case true =>
    refine herr 29 (by omega) (by simp [corE, hu]) ⟨[.arr [I 29] 1], ?_⟩
    rw [den_call Try.func14 rfl]
    simp -implicitDefEqProofs [Try.f14, hro', hu, h28]
  cases hi : inR i 0 (w64 (L.length - 1))
  · refine herr 11 (by omega) (by simp [corE, hu, hi]) ⟨[.arr [I 11] 1], ?_⟩
    rw [den_call Try.func14 rfl]
    simp -implicitDefEqProofs [Try.f14, hro', hu, h28, hX, acc, hi]
  have hi' := hi
  rw [hw] at hi'
  simp only [inR, Bool.and_eq_true, decide_eq_true_eq] at hi'
  have hx := d14x id m k r v i u L c hst hc.conv hro hid h hn hk hu hi'.1 (by omega)
  cases hb : walkP fC false (corL L i u) 0
  · have hE : corE L false i u = 0 := by simp [corE, hu, hi, hb]
    rw [hb] at hx
    rw [mcall_of hx, conv_v, hE]
    simp only [cL, cCap, if_true, Bool.false_eq_true, if_false]
    rw [shrink_set rfl hro hid hst (Y := acc r v (corL L i u) .tight false)]
    have hget : (m.blks.set id (.arr [.agg [I r, I v, .own 2 (m.blks.length + 1) 0 L.length, B false]] 4) ++ J14 m.blks.length L (corL L i u) false)[m.blks.length + 1]? = some (.arr ((corL L i u).map mv) 2) := by
      rw [List.getElem?_append_right (by simp)]
      simp [J14]
    have ho := conv_own_ge (m := ⟨m.blks.set id (.arr [.agg [I r, I v, .own 2 (m.blks.length + 1) 0 L.length, B false]] 4) ++ J14 m.blks.length L (corL L i u) false, m.next, m.live, m.ro⟩) (n := m.blks.length) (nx := m.next) (z := 2) (off := 0) (k := L.length) (Nat.le_succ _) hget (by simp [corL_len])
    simp only [convBlk_arr, List.map_cons, List.map_nil, conv_agg, conv_v, ho, acc]
    have hm : (corL L i u).map (convN ⟨m.blks.set id (.arr [.agg [I r, I v, .own 2 (m.blks.length + 1) 0 L.length, B false]] 4) ++ J14 m.blks.length L (corL L i u) false, m.next, m.live, m.ro⟩ m.blks.length m.next 2 ∘ mv) = (corL L i u).map mv := List.map_congr_left fun q _ => convN_mv _ _ _ 1 q
    rw [List.drop_zero, List.take_of_length_le (by simp [corL_len]), List.map_map, hm]
    simp [corL_len]
  · refine herr 21 (by omega) (by simp [corE, hu, hi, hb]) ⟨J14 m.blks.length L (corL L i u) true, ?_⟩
    rw [hx, hb]
    simp

/-- What a step does: its error, the movements behind it. -/
def doE (L : List (Int × Int)) (cl : Bool) (kd d u : Int) (lic : Bool) : Int :=
  if kd = 0 then rcvE L cl d u else if kd = 1 then movE L cl d u lic else corE L cl d u
def doL (L : List (Int × Int)) (cl : Bool) (kd d u : Int) (lic : Bool) : List (Int × Int) :=
  if kd = 0 then nL (rcvE L cl d u) L (d, u) else if kd = 1 then nL (movE L cl d u lic) L (d, w64 (-u)) else cL (corE L cl d u) L d u
def doC (L : List (Int × Int)) (c : Cap) (cl : Bool) (kd d u : Int) (lic : Bool) (nx : Nat) : Cap :=
  if kd = 0 then nCap (rcvE L cl d u) c nx else if kd = 1 then nCap (movE L cl d u lic) c nx else cCap (corE L cl d u) c
def doN (L : List (Int × Int)) (cl : Bool) (kd d u : Int) (lic : Bool) (nx : Nat) : Nat :=
  if kd = 0 then nNx (rcvE L cl d u) nx else if kd = 1 then nNx (movE L cl d u lic) nx else nx
def doV (L : List (Int × Int)) (c : Cap) (cl : Bool) (kd d u : Int) (lic : Bool) (nx : Nat) (lv : List Nat) : List Nat :=
  if kd = 0 then nLv (rcvE L cl d u) c nx lv else if kd = 1 then nLv (movE L cl d u lic) c nx lv else lv

theorem do_le (L : List (Int × Int)) (cl : Bool) (kd d u : Int) (lic : Bool) (nx : Nat) : nx ≤ doN L cl kd d u lic nx := by
  unfold doN nNx
  (repeat' split) <;> omega
theorem nCap_ok {nx : Nat} {lv : List Nat} {c : Cap} (hc : AppOk nx lv c) (e : Int) : AppOk (nNx e nx) (nLv e c nx lv) (nCap e c nx) := by
  by_cases he : e = 0
  · simp [nCap, nNx, nLv, he, AppOk]
  · simpa [nCap, nNx, nLv, he] using hc
theorem do_cap {nx : Nat} {lv : List Nat} {c : Cap} (hc : AppOk nx lv c) (L : List (Int × Int)) (cl : Bool) (kd d u : Int) (lic : Bool) : AppOk (doN L cl kd d u lic nx) (doV L c cl kd d u lic nx lv) (doC L c cl kd d u lic nx) := by
  unfold doN doV doC
  split
  · exact nCap_ok hc _
  split
  · exact nCap_ok hc _
  · unfold cCap
    split
    · exact trivial
    · exact hc
theorem do_len (L : List (Int × Int)) (cl : Bool) (kd d u : Int) (lic : Bool) : (doL L cl kd d u lic).length ≤ L.length + 1 := by
  unfold doL nL cL
  (repeat' split) <;> simp [corL_len]
theorem do_ne {L : List (Int × Int)} (hL : L ≠ []) (cl : Bool) (kd d u : Int) (lic : Bool) : doL L cl kd d u lic ≠ [] := by
  unfold doL nL cL
  (repeat' split) <;> simp [hL, corL]

def stp (kd d u : Int) (lic : Bool) : AV := .agg [I kd, I d, I u, B lic]

theorem m11 (id : Nat) (m : AMem) (k : Nat) (r v kd d u : Int) (L : List (Int × Int)) (c : Cap) (cl lic : Bool) (hst : ∀ b ∈ m.blks, Still m.blks.length m.next b) (hc : AppOk m.next m.live c) (hro : m.ro ≤ id) (hid : id < m.blks.length) (h : m.blks[id]? = some (acc r v L c cl)) (hn : L.length ≤ 1000000) (hk : L.length < k) (hL : L ≠ []) :
    mcall (den Try.prog cfg0 (k+9)) 11 [.ref id 0 0, stp kd d u lic] m = some (I (doE L cl kd d u lic), ⟨m.blks.set id (acc r v (doL L cl kd d u lic) (doC L c cl kd d u lic m.next) cl), doN L cl kd d u lic m.next, doV L c cl kd d u lic m.next m.live, m.ro⟩) := by
  have hbx : ∀ b ∈ m.blks ++ [ABlk.arr [stp kd d u lic] 4], Still (m.blks ++ [ABlk.arr [stp kd d u lic] 4]).length m.next b := by
    intro b hb
    rcases List.mem_append.1 hb with hb | hb
    · exact (hst b hb).mono (by simp)
    · simp at hb; subst hb; intro m n nx _ _; simp [stp]
  have hX : (m.blks ++ [ABlk.arr [stp kd d u lic] 4])[id]? = some (acc r v L c cl) := by rw [get_app_lt hid]; exact h
  have hset : ∀ x : ABlk, (m.blks ++ [ABlk.arr [stp kd d u lic] 4]).set id x = m.blks.set id x ++ [ABlk.arr [stp kd d u lic] 4] := fun x => set_app_lt hid
  have h22 := m22 id ⟨m.blks ++ [ABlk.arr [stp kd d u lic] 4], m.next, m.live, m.ro⟩ k r v d u L c cl hbx hc hro (by simp; omega) hX hn hk hL
  have h23 := m23 id ⟨m.blks ++ [ABlk.arr [stp kd d u lic] 4], m.next, m.live, m.ro⟩ k r v d u L c cl lic hbx hc hro (by simp; omega) hX hn hk hL
  have h14 := m14 id ⟨m.blks ++ [ABlk.arr [stp kd d u lic] 4], m.next, m.live, m.ro⟩ (k + 2) r v d u L c cl hbx hc hro (by simp; omega) hX hn (by omega)
  simp only [hset] at h22 h23 h14
  simp only [stp] at h22 h23 h14
  have hro' : m.ro ≤ m.blks.length := by omega
  have hd : den Try.prog cfg0 (k+9) (.call 11 [.ref id 0 0, stp kd d u lic]) m = some (I (doE L cl kd d u lic), ⟨m.blks.set id (acc r v (doL L cl kd d u lic) (doC L c cl kd d u lic m.next) cl) ++ [ABlk.arr [stp kd d u lic] 4], doN L cl kd d u lic m.next, doV L c cl kd d u lic m.next m.live, m.ro⟩) := by
    rw [den_call Try.func11 rfl]
    by_cases h0 : kd = 0
    · subst h0
      simp -implicitDefEqProofs [Try.f11, stp, hro', h22, doE, doL, doC, doN, doV]
    by_cases h1 : kd = 1
    · subst h1
      simp -implicitDefEqProofs [Try.f11, stp, hro', h23, doE, doL, doC, doN, doV]
    simp -implicitDefEqProofs [Try.f11, stp, hro', h0, h1, h14, doE, doL, doC, doN, doV]
  rw [mcall_of hd, conv_v, shrink_still (by simp)]
  exact still_set (fun b hb => (hst b hb).le (do_le _ _ _ _ _ _ _)) (still_acc (do_cap hc L cl kd d u lic))

/-- The account is released. -/
theorem m20 (id : Nat) (m : AMem) (k : Nat) (r v day : Int) (f : Bool) (L : List (Int × Int)) (c : Cap) (cl : Bool) (hst : ∀ b ∈ m.blks, Still m.blks.length m.next b) (hc : AppOk m.next m.live c) (hro : m.ro ≤ id) (hid : id < m.blks.length) (h : m.blks[id]? = some (acc r v L c cl)) (hn : L.length ≤ 1000000) (hk : L.length < k) (hL : L ≠ []) :
    mcall (den Try.prog cfg0 (k+7)) 20 [.ref id 0 0, I day, B f] m = some (.tup [I (if intE L cl day = 0 then sumP 0 L else 0), I (intV r v L cl day f), I (intE L cl day)], ⟨m.blks.set id (acc r v L c (cl || intE L cl day == 0)), m.next, m.live, m.ro⟩) := by
  have h12 := fun x l => p12 id ⟨m.blks, m.next, l, x⟩ k r v day f cl L c hc.conv hid h hn hk hL
  have hro' : m.ro ≤ m.blks.length := by omega
  by_cases he : intE L cl day = 0
  · have hcl : cl = false := by
      cases cl
      · rfl
      · simp only [intE] at he
        split at he <;> simp at he
    subst hcl
    have h32 := fun x l => p32 id ⟨m.blks.set id (acc r v L c true), m.next, l, x⟩ (k + 3) r v L c true (by simpa using hid) (by simp [hid]) hn (by omega)
    have hd : den Try.prog cfg0 (k+7) (.call 20 [.ref id 0 0, I day, B f]) m = some (.tup [I (sumP 0 L), I (intV r v L false day f), I 0], ⟨m.blks.set id (acc r v L c true), m.next, m.live, m.ro⟩) := by
      rw [den_call Try.func20 rfl]
      simp only [acc] at h h32
      simp -implicitDefEqProofs [Try.f20, h12, he, hro, h, h32, acc]
    rw [mcall_of hd, shrink_same (by simp)]
    · simp [he]
    · exact still_set hst (still_acc hc)
  · have hd : den Try.prog cfg0 (k+7) (.call 20 [.ref id 0 0, I day, B f]) m = some (.tup [I 0, I 0, I (intE L cl day)], m) := by
      rw [den_call Try.func20 rfl]
      simp -implicitDefEqProofs [Try.f20, h12, he, hro, h]
    rw [mcall_of hd, shrink_same rfl hst]
    have : (intE L cl day == 0) = false := by simp [he]
    simp [he, intV, this, set_self h]
end Go.Den
