/-
  The reference's accounts: money is received and moved; a step; the release. Conditions: as each statement says.
-/
import Derived.Test.YtnnajbbmgponpaaDenF23
namespace Go.Den
open Go.Proofs
set_option linter.unusedSimpArgs false
set_option linter.unusedVariables false

/-- The errors of the reference. -/
def addR (L : List (Int × Int)) (cl : Bool) (d u : Int) : Int :=
  if cl then 29 else if d < lastDay L then 14 else if 1000 ≤ L.length ∨ 1000000000000 < w64 (sumP 0 L + u) then 2 else 0
def rcvR (L : List (Int × Int)) (cl : Bool) (d u : Int) : Int := if inR d 0 100000 && inR u 1 1000000000000 then addR L cl d u else 1
def movR (L : List (Int × Int)) (cl : Bool) (d u : Int) (lic : Bool) : Int :=
  if inR d 0 100000 && inR u 1 1000000000000 then (if cl then 29 else if lic = false then 20 else if d < lastDay L then 14 else if sumP 0 L < u then 21 else if 1000 ≤ L.length then 2 else 0) else 1

/-- Behind a movement that is added. -/
def movedR (A : List ABlk) (id sid : Nat) (r v : Int) (L : List (Int × Int)) (p : Int × Int) : List ABlk :=
  (A.set sid .gone).set id (accR r v (A.length + 1) (L.length + 1) false) ++ [.vec [mv p] 2, .vec ((L ++ [p]).map mv) 2]

theorem movedR_at {A : List ABlk} {id sid : Nat} {r v : Int} {L : List (Int × Int)} {cl : Bool} (h : AtR A id sid r v L cl) (p : Int × Int) : AtR (movedR A id sid r v L p) id (A.length + 1) r v (L ++ [p]) false := by
  have hl := h.lt
  refine ⟨?_, ?_⟩
  · unfold movedR
    rw [get_app_lt (by simp; omega), List.getElem?_set_self (by simp; omega)]
    simp
  · unfold movedR
    rw [get_app_at1 (by simp)]
    simp

set_option maxHeartbeats 4000000 in
theorem d35 (id sid : Nat) (m : AMem) (k : Nat) (r v d u : Int) (L : List (Int × Int)) (cl : Bool) (h : AtR m.blks id sid r v L cl) (hro : m.ro ≤ sid) (hro2 : m.ro ≤ id) (hn : L.length ≤ 1000000) (hk : L.length < k) (hL : L ≠ []) :
    den Try.prog cfg0 (k+2) (.call 35 [.ref id 0 0, I d, I u]) m = some (I (rcvR L cl d u), ⟨if rcvR L cl d u = 0 then movedR m.blks id sid r v L (d, u) else m.blks, m.next, m.live, m.ro⟩) := by
  have hacc := h.acc
  have hvec := h.vec
  have hl := h.lt
  have h39 := fun nx lv ro => p39 id sid ⟨m.blks, nx, lv, ro⟩ k r v L cl h hn hL
  have h38 := fun nx lv ro => p38 id sid ⟨m.blks, nx, lv, ro⟩ k r v L cl h hn hk
  rw [den_call Try.func35 rfl]
  unfold rcvR
  cases h1 : inR d 0 100000
  · simp -implicitDefEqProofs [Try.f35, h1]
  by_cases h2 : u < 1
  · have hu : inR u 1 1000000000000 = false := by simp [inR]; omega
    simp -implicitDefEqProofs [Try.f35, h1, h2, hu]
  by_cases h3 : 1000000000000 < u
  · have hu : inR u 1 1000000000000 = false := by simp [inR]; omega
    simp -implicitDefEqProofs [Try.f35, h1, h2, h3, hu]
  have hu : inR u 1 1000000000000 = true := by simp [inR]; omega
  unfold addR
  cases cl
  case true => simp -implicitDefEqProofs [Try.f35, h1, h2, h3, hu, hacc, accR]
  by_cases h4 : d < lastDay L
  · simp -implicitDefEqProofs [Try.f35, h1, h2, h3, hu, hacc, accR, h39, h4]
  by_cases h5 : 1000 ≤ L.length
  · have h5' : (1000 : Int) ≤ L.length := by omega
    simp -implicitDefEqProofs [Try.f35, h1, h2, h3, hu, hacc, accR, h39, h4, h5, h5']
  have h5' : ¬ (1000 : Int) ≤ L.length := by omega
  by_cases h6 : 1000000000000 < w64 (sumP 0 L + u)
  · simp -implicitDefEqProofs [Try.f35, h1, h2, h3, hu, hacc, accR, h39, h38, h4, h5, h5', h6]
  have hroom : roomFor (L.length + 1) 16 = true := by simp [roomFor]; omega
  have hset : ∀ (x : ABlk) (j : Nat) (X : List ABlk), j < m.blks.length → (m.blks ++ X).set j x = m.blks.set j x ++ X := fun x j X hj => set_app_lt hj
  have hg : ∀ X, (m.blks ++ X)[sid]? = some (.vec (L.map mv) 2) := fun X => by rw [get_app_lt hl.2.1]; exact hvec
  have hg2 : ∀ (x : ABlk) (X : List ABlk), (m.blks.set sid x ++ X)[id]? = some (accR r v sid L.length false) := fun x X => by rw [get_app_lt (by simpa using hl.1), List.getElem?_set_ne (Ne.symm hl.2.2)]; exact hacc
  have hs2 : ∀ (x y : ABlk) (X : List ABlk), (m.blks.set sid x ++ X).set id y = (m.blks.set sid x).set id y ++ X := fun x y X => set_app_lt (by simpa using hl.1)
  have htake : List.take L.length (L.map mv) = L.map mv := List.take_of_length_le (by simp)
  simp -implicitDefEqProofs [Try.f35, h1, h2, h3, hu, hacc, h39, h38, h4, h5, h5', h6, appendVecReq, itemsM, hroom, hset, hl.2.1, hg, hg2, hs2, htake, hro, hro2, accR, movedR, mv]

set_option maxHeartbeats 4000000 in
theorem d36 (id sid : Nat) (m : AMem) (k : Nat) (r v d u : Int) (L : List (Int × Int)) (cl lic : Bool) (h : AtR m.blks id sid r v L cl) (hro : m.ro ≤ sid) (hro2 : m.ro ≤ id) (hn : L.length ≤ 1000000) (hk : L.length < k) (hL : L ≠ []) :
    den Try.prog cfg0 (k+2) (.call 36 [.ref id 0 0, I d, I u, B lic]) m = some (I (movR L cl d u lic), ⟨if movR L cl d u lic = 0 then movedR m.blks id sid r v L (d, w64 (-u)) else m.blks, m.next, m.live, m.ro⟩) := by
  have hacc := h.acc
  have hvec := h.vec
  have hl := h.lt
  have h39 := fun nx lv ro => p39 id sid ⟨m.blks, nx, lv, ro⟩ k r v L cl h hn hL
  have h38 := fun nx lv ro => p38 id sid ⟨m.blks, nx, lv, ro⟩ k r v L cl h hn hk
  rw [den_call Try.func36 rfl]
  unfold movR
  cases h1 : inR d 0 100000
  · simp -implicitDefEqProofs [Try.f36, h1]
  by_cases h2 : u < 1
  · have hu : inR u 1 1000000000000 = false := by simp [inR]; omega
    simp -implicitDefEqProofs [Try.f36, h1, h2, hu]
  by_cases h3 : 1000000000000 < u
  · have hu : inR u 1 1000000000000 = false := by simp [inR]; omega
    simp -implicitDefEqProofs [Try.f36, h1, h2, h3, hu]
  have hu : inR u 1 1000000000000 = true := by simp [inR]; omega
  cases cl
  case true => simp -implicitDefEqProofs [Try.f36, h1, h2, h3, hu, hacc, accR]
  cases lic
  case false => simp -implicitDefEqProofs [Try.f36, h1, h2, h3, hu, hacc, accR]
  by_cases h4 : d < lastDay L
  · simp -implicitDefEqProofs [Try.f36, h1, h2, h3, hu, hacc, accR, h39, h4]
  by_cases h6 : sumP 0 L < u
  · simp -implicitDefEqProofs [Try.f36, h1, h2, h3, hu, hacc, accR, h39, h38, h4, h6]
  by_cases h5 : 1000 ≤ L.length
  · have h5' : (1000 : Int) ≤ L.length := by omega
    simp -implicitDefEqProofs [Try.f36, h1, h2, h3, hu, hacc, accR, h39, h38, h4, h6, h5, h5']
  have h5' : ¬ (1000 : Int) ≤ L.length := by omega
  have hroom : roomFor (L.length + 1) 16 = true := by simp [roomFor]; omega
  have hset : ∀ (x : ABlk) (j : Nat) (X : List ABlk), j < m.blks.length → (m.blks ++ X).set j x = m.blks.set j x ++ X := fun x j X hj => set_app_lt hj
  have hg : ∀ X, (m.blks ++ X)[sid]? = some (.vec (L.map mv) 2) := fun X => by rw [get_app_lt hl.2.1]; exact hvec
  have hg2 : ∀ (x : ABlk) (X : List ABlk), (m.blks.set sid x ++ X)[id]? = some (accR r v sid L.length false) := fun x X => by rw [get_app_lt (by simpa using hl.1), List.getElem?_set_ne (Ne.symm hl.2.2)]; exact hacc
  have hs2 : ∀ (x y : ABlk) (X : List ABlk), (m.blks.set sid x ++ X).set id y = (m.blks.set sid x).set id y ++ X := fun x y X => set_app_lt (by simpa using hl.1)
  have htake : List.take L.length (L.map mv) = L.map mv := List.take_of_length_le (by simp)
  simp -implicitDefEqProofs [Try.f36, h1, h2, h3, hu, hacc, h39, h38, h4, h5, h5', h6, appendVecReq, itemsM, hroom, hset, hl.2.1, hg, hg2, hs2, htake, hro, hro2, accR, movedR, mv]

/-- What a step of the reference does. -/
def doR (L : List (Int × Int)) (cl : Bool) (kd d u : Int) (lic : Bool) : Int :=
  if kd = 0 then rcvR L cl d u else if kd = 1 then movR L cl d u lic else corE L cl d u
def dosR (A : List ABlk) (id sid : Nat) (r v : Int) (L : List (Int × Int)) (cl : Bool) (x : Stp) : List ABlk :=
  if doR L cl x.1 x.2.1 x.2.2.1 x.2.2.2 = 0 then
    (if x.1 = 0 then movedR (A ++ [ABlk.arr [stpv x] 4]) id sid r v L (x.2.1, x.2.2.1) else if x.1 = 1 then movedR (A ++ [ABlk.arr [stpv x] 4]) id sid r v L (x.2.1, w64 (-x.2.2.1)) else (A ++ [ABlk.arr [stpv x] 4]).set sid (.vec ((corL L x.2.1 x.2.2.1).map mv) 2))
  else A ++ [ABlk.arr [stpv x] 4]

set_option maxHeartbeats 4000000 in
theorem d17 (id sid : Nat) (m : AMem) (k : Nat) (r v : Int) (x : Stp) (L : List (Int × Int)) (cl : Bool) (hst : ∀ b ∈ m.blks, Still m.blks.length m.next b) (h : AtR m.blks id sid r v L cl) (hro : m.ro ≤ sid) (hro2 : m.ro ≤ id) (hn : L.length ≤ 1000000) (hk : L.length < k) (hL : L ≠ []) :
    den Try.prog cfg0 (k+3) (.call 17 [.ref id 0 0, stpv x]) m = some (I (doR L cl x.1 x.2.1 x.2.2.1 x.2.2.2), ⟨dosR m.blks id sid r v L cl x, m.next, m.live, m.ro⟩) := by
  obtain ⟨kd, d, u, lic⟩ := x
  have hl := h.lt
  have ha := h.app [.arr [stpv (kd, d, u, lic)] 4]
  have h35 := d35 id sid ⟨m.blks ++ [ABlk.arr [stpv (kd, d, u, lic)] 4], m.next, m.live, m.ro⟩ k r v d u L cl ha hro hro2 hn hk hL
  have h36 := d36 id sid ⟨m.blks ++ [ABlk.arr [stpv (kd, d, u, lic)] 4], m.next, m.live, m.ro⟩ k r v d u L cl lic ha hro hro2 hn hk hL
  have h37 := m37 id sid ⟨m.blks ++ [ABlk.arr [stpv (kd, d, u, lic)] 4], m.next, m.live, m.ro⟩ (k + 1) r v d u L cl (by
    intro b hb
    rcases List.mem_append.1 hb with hb | hb
    · exact (hst b hb).mono (by simp)
    · simp at hb; subst hb; intro m n nx _ _; simp [stpv, stp]) ha hro hn (by omega)
  have hro' : m.ro ≤ m.blks.length := by omega
  rw [den_call Try.func17 rfl]
  simp only [stpv, stp] at h35 h36 h37
  unfold doR dosR doR
  by_cases h0 : kd = 0
  · subst h0
    simp -implicitDefEqProofs [Try.f17, stpv, stp, hro', h35]
  by_cases h1 : kd = 1
  · subst h1
    simp -implicitDefEqProofs [Try.f17, stpv, stp, hro', h36]
  simp -implicitDefEqProofs [Try.f17, stpv, stp, hro', h0, h1, h37]

/-- The reference's account is released. -/
theorem m21 (id sid : Nat) (m : AMem) (k : Nat) (r v day : Int) (f : Bool) (L : List (Int × Int)) (cl : Bool) (hst : ∀ b ∈ m.blks, Still m.blks.length m.next b) (h : AtR m.blks id sid r v L cl) (hro : m.ro ≤ id) (hn : L.length ≤ 1000000) (hk : L.length < k) (hL : L ≠ []) (hd0 : -100000 ≤ (L.headD (0, 0)).1) (hkd : intE L cl day = 0 → day - (L.headD (0, 0)).1 < k) :
    mcall (den Try.prog cfg0 (k+3)) 21 [.ref id 0 0, I day, B f] m = some (.tup [I (if intE L cl day = 0 then sumP 0 L else 0), I (intR r v L cl day f), I (intE L cl day)], ⟨m.blks.set id (accR r v sid L.length (cl || intE L cl day == 0)), m.next, m.live, m.ro⟩) := by
  have hacc := h.acc
  have hl := h.lt
  have h19 := fun x l => p19 id sid ⟨m.blks, m.next, l, x⟩ k r v day f L cl h hn hk hL hd0 hkd
  by_cases he : intE L cl day = 0
  · have hcl : cl = false := by
      cases cl
      · rfl
      · simp only [intE] at he
        split at he <;> simp at he
    subst hcl
    have ha : AtR (m.blks.set id (accR r v sid L.length true)) id sid r v L true := ⟨by rw [List.getElem?_set_self hl.1], by rw [List.getElem?_set_ne hl.2.2]; exact h.vec⟩
    have h38 := fun x l => p38 id sid ⟨m.blks.set id (accR r v sid L.length true), m.next, l, x⟩ (k + 1) r v L true ha hn (by omega)
    have hd : den Try.prog cfg0 (k+3) (.call 21 [.ref id 0 0, I day, B f]) m = some (.tup [I (sumP 0 L), I (intR r v L false day f), I 0], ⟨m.blks.set id (accR r v sid L.length true), m.next, m.live, m.ro⟩) := by
      rw [den_call Try.func21 rfl]
      simp only [accR] at hacc h38
      simp -implicitDefEqProofs [Try.f21, h19, he, hro, hacc, h38, accR]
    rw [mcall_of hd, shrink_same (by simp)]
    · simp [he]
    · refine still_set hst ?_
      intro m' n nx' hN _
      simp [accR, conv_own_lt (Nat.lt_of_lt_of_le hl.2.1 hN)]
  · have hd : den Try.prog cfg0 (k+3) (.call 21 [.ref id 0 0, I day, B f]) m = some (.tup [I 0, I 0, I (intE L cl day)], m) := by
      rw [den_call Try.func21 rfl]
      simp -implicitDefEqProofs [Try.f21, h19, he, hro, hacc]
    rw [mcall_of hd, shrink_same rfl hst]
    have hb : (intE L cl day == 0) = false := by simp [he]
    have hs : m.blks.set id (accR r v sid L.length cl) = m.blks := set_self hacc
    simp [he, intR, hb, hs]
end Go.Den
