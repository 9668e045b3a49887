/-
  A movement is added to an account. Conditions: as each statement says.
-/
import Derived.Test.YtnnajbbmgponpaaDenF6
namespace Go.Den
open Go.Proofs
set_option linter.unusedSimpArgs false

@[simp] theorem p43 (id : Nat) (m : AMem) (k : Nat) (d u : Int) (lic : Bool) :
    pcall (den Try.prog cfg0 (k+1)) 43 [.agg [.ref id 0 0, I d, I u, B lic]] m = some (I (if lic then 0 else 20)) := by
  refine pcall_v ?_
  rw [den_call Try.func43 rfl]
  cases lic <;> simp [Try.f43]

@[simp] theorem p44 (id : Nat) (m : AMem) (k : Nat) (r v d u : Int) (L : List (Int × Int)) (c : Cap) (cl lic : Bool) (hid : id < m.blks.length) (h : m.blks[id]? = some (acc r v L c cl)) (hn : L.length ≤ 1000000) (hk : L.length < k) :
    pcall (den Try.prog cfg0 (k+4)) 44 [.agg [.ref id 0 0, I d, I u, B lic]] m = some (I (if w64 (sumP 0 L + u) < 0 then 21 else 0)) := by
  refine pcall_v ?_
  rw [den_call Try.func44 rfl]
  have h32 := fun x l nx y => p32 id ⟨m.blks ++ [y], nx, l, x⟩ k r v L c cl (by simp; omega) (by simpa [get_app_lt hid] using h) hn hk
  by_cases hs : w64 (sumP 0 L + u) < 0 <;> simp [Try.f44, h32, hs]

@[simp] theorem p45 (id : Nat) (m : AMem) (k : Nat) (r v d u : Int) (L : List (Int × Int)) (c : Cap) (cl lic : Bool) (hid : id < m.blks.length) (h : m.blks[id]? = some (acc r v L c cl)) (hn : L.length ≤ 1000000) (hk : L.length < k) :
    pcall (den Try.prog cfg0 (k+4)) 45 [.agg [.ref id 0 0, I d, I u, B lic]] m = some (I (if 1000 ≤ L.length ∨ 1000000000000 < w64 (sumP 0 L + u) then 2 else 0)) := by
  refine pcall_v ?_
  rw [den_call Try.func45 rfl]
  have h32 := fun x l nx y => p32 id ⟨m.blks ++ [y], nx, l, x⟩ k r v L c cl (by simp; omega) (by simpa [get_app_lt hid] using h) hn hk
  by_cases h1 : 1000 ≤ L.length
  · have h1' : (1000 : Int) ≤ L.length := by omega
    simp [Try.f45, h, acc, get_app_lt hid, h1, h1']
  · have h1' : ¬ (1000 : Int) ≤ L.length := by omega
    by_cases hs : 1000000000000 < w64 (sumP 0 L + u) <;> simp [Try.f45, h, acc, get_app_lt hid, h1, h1', h32, hs]

/-- The error of an entry. -/
def addE (L : List (Int × Int)) (cl : Bool) (d u : Int) (lic : Bool) : Int :=
  if cl then 29 else if lic = false then 20 else if d < lastDay L then 14 else if w64 (sumP 0 L + u) < 0 then 21 else if 1000 ≤ L.length ∨ 1000000000000 < w64 (sumP 0 L + u) then 2 else 0

/-- A slice that may be appended to. -/
def AppOk (nx : Nat) (lv : List Nat) : Cap → Prop
  | .no => False
  | .tight => True
  | .tok t => t ∈ lv ∧ t < nx
def dropTok : Cap → List Nat → List Nat
  | .tok t, lv => lv.erase t
  | _, lv => lv

theorem before41 (n id : Nat) (hid : id < n) : freeAll (Region.before (regionOf Try.f41 9)) [.none, .none, .none, .none, .rd id, .none, .rd n, .none, .tok, .none, .none, .wr id] = true := by
  have h0 : freeAll (Region.before (regionOf Try.f41 9)) [.none, .none, .none, .none, .rd 0, .none, .rd 1, .none, .tok, .none, .none, .wr 0] = true := by kernel_rfl
  have h1 := freeAll_ren (fun i => [id, n].getD i 0) 2 (by
    intro i j hi hj h
    match i, j, hi, hj with
    | 0, 0, _, _ | 1, 1, _, _ => rfl
    | 0, 1, _, _ | 1, 0, _, _ => simp at h <;> omega
    | (i + 2), _, hi, _ => omega
    | _, (j + 2), _, hj => omega) (by rfl) h0
  exact h1

set_option maxHeartbeats 4000000 in
theorem d41 (id : Nat) (m : AMem) (k : Nat) (r v d u : Int) (L : List (Int × Int)) (c : Cap) (cl lic : Bool) (hc : AppOk m.next m.live c) (hro : m.ro ≤ id) (hid : id < m.blks.length) (h : m.blks[id]? = some (acc r v L c cl)) (hn : L.length ≤ 1000000) (hk : L.length < k) (hL : L ≠ []) :
    den Try.prog cfg0 (k+7) (.call 41 [.ref id 0 0, I d, I u, B lic]) m = some (I (addE L cl d u lic), if addE L cl d u lic = 0 then ⟨m.blks.set id (acc r v (L ++ [(d, u)]) (.tok m.next) cl) ++ [.arr [.agg [.ref id 0 0, I d, I u, B lic]] 4], m.next + 1, m.next :: dropTok c m.live, m.ro⟩ else ⟨m.blks ++ [.arr [.agg [.ref id 0 0, I d, I u, B lic]] 4], m.next, m.live, m.ro⟩) := by
  rw [den_call Try.func41 rfl]
  have hX : ∀ X : List ABlk, (m.blks ++ X)[id]? = some (acc r v L c cl) := fun X => by rw [get_app_lt hid]; exact h
  have e1 := fun X x l nx => p29 id ⟨m.blks ++ X, nx, l, x⟩ (k + 5) r v L c cl (hX X)
  have e3 := fun X x l nx => p30 id ⟨m.blks ++ X, nx, l, x⟩ (k + 5) r v d u L c cl lic (by simp; omega) (hX X) hL hn
  have e4 := fun X x l nx => p44 id ⟨m.blks ++ X, nx, l, x⟩ (k + 2) r v d u L c cl lic (by simp; omega) (hX X) hn (by omega)
  have e5 := fun X x l nx => p45 id ⟨m.blks ++ X, nx, l, x⟩ (k + 2) r v d u L c cl lic (by simp; omega) (hX X) hn (by omega)
  have hro' : m.ro ≤ m.blks.length := by omega
  unfold addE
  cases cl
  case true => simp [Try.f41, indexReq, hro', e1]
  cases lic
  case false => simp [Try.f41, indexReq, hro', e1]
  by_cases h3 : d < lastDay L
  · simp [Try.f41, indexReq, hro', e1, e3, h3]
  by_cases h4 : w64 (sumP 0 L + u) < 0
  · simp [Try.f41, indexReq, hro', e1, e3, h3, e4, h4]
  by_cases h5 : 1000 ≤ L.length ∨ 1000000000000 < w64 (sumP 0 L + u)
  · simp [Try.f41, indexReq, hro', e1, e3, h3, e4, h4, e5, h5]
  have hb := before41 m.blks.length id hid
  simp [regionOf, regionsOf, codeOf, Try.f41] at hb
  have hroom : roomFor (L.length + 1) 16 = true := by simp [roomFor]; omega
  have hset : ∀ (X : List ABlk) (x : ABlk), (m.blks ++ X).set id x = m.blks.set id x ++ X := fun X x => set_app_lt hid
  cases c with
  | no => exact hc.elim
  | tight => simp [Try.f41, indexReq, hro', e1, e3, h3, e4, h4, e5, h5, hX, acc, hb, appendReq, hroom, hset, hro, dropTok, mv, itemsA]
  | tok t => 
    have ht : t ∈ m.live := hc.1
    simp [Try.f41, indexReq, hro', e1, e3, h3, e4, h4, e5, h5, hX, acc, hb, appendReq, hroom, ht, hset, hro, dropTok, mv, itemsA]
end Go.Den
