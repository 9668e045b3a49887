/-
  The small functions of the frozen accounts, as the abstract interpreter finds them. Conditions: as each statement says.
-/
import Derived.Test.YtnnajbbmgponpaaDenTy
namespace Go.Den
open Go.Proofs
def cfg0 : FuncId → FCfg := fun f =>
  match f with
  | 10 | 16 | 17 | 24 | 31 | 35 | 36 | 1000048 | 1000068 => ⟨.keep, []⟩
  | 11 | 14 | 20 | 21 | 22 | 23 | 37 | 41 => ⟨.meth, []⟩
  | _ => ⟨.pure, []⟩
attribute [simp] cfg0
set_option linter.unusedSimpArgs false
/-- A number lies between two. -/
def inR (n lo hi : Int) : Bool := decide (lo ≤ n) && decide (n ≤ hi)
theorem d26 (n lo hi : Int) (m : AMem) (k : Nat) : den Try.prog cfg0 (k+1) (.call 26 [I n, I lo, I hi]) m = some (B (inR n lo hi), m) := by
  rw [den_call Try.func26 rfl]
  unfold inR
  by_cases h1 : lo ≤ n <;> by_cases h2 : n ≤ hi <;>
  simp [Try.f26, h1, h2]
@[simp] theorem p26 (n lo hi : Int) (m : AMem) (k : Nat) : pcall (den Try.prog cfg0 (k+1)) 26 [I n, I lo, I hi] m = some (B (inR n lo hi)) := by
  rw [pcall_of (d26 n lo hi _ k), conv_v]
theorem d27 (n : Int) (m : AMem) (k : Nat) : den Try.prog cfg0 (k+2) (.call 27 [I n]) m = some (B (inR n 0 100000), m) := by
  rw [den_call Try.func27 rfl]
  simp [Try.f27]
@[simp] theorem p27 (n : Int) (m : AMem) (k : Nat) : pcall (den Try.prog cfg0 (k+2)) 27 [I n] m = some (B (inR n 0 100000)) := by
  rw [pcall_of (d27 n _ k), conv_v]

/-- A movement, and an account. -/
def mv (p : Int × Int) : AV := .agg [I p.1, I p.2]
def acc (r v : Int) (L : List (Int × Int)) (c : Cap) (cl : Bool) : ABlk := .arr [.agg [I r, I v, .sl 2 (L.map mv) c, B cl]] 4

/-- The numbers with which an account can be opened. -/
def okNew (r v d u : Int) : Bool := inR r 0 10000 && inR v 0 10000 && inR d 0 100000 && inR u 0 1000000000000

theorem d10 (r v d u : Int) (m : AMem) (k : Nat) (hro : m.ro ≤ m.blks.length) :
    den Try.prog cfg0 (k+3) (.call 10 [I r, I v, I d, I u]) m = if okNew r v d u then some (.tup [.ref m.blks.length 0 0, I 0], { m with blks := m.blks ++ [acc r v [(d, u)] .tight false] }) else some (.tup [nilP, I 1], m) := by
  rw [den_call Try.func10 rfl]
  unfold okNew
  cases h1 : inR r 0 10000
  · simp [Try.f10, h1]
  cases h2 : inR v 0 10000
  · simp [Try.f10, h1, h2]
  cases h3 : inR d 0 100000
  · simp [Try.f10, h1, h2, h3]
  cases h4 : inR u 0 1000000000000
  · simp [Try.f10, h1, h2, h3, h4]
  simp [Try.f10, h1, h2, h3, h4, hro, acc, mv]
theorem d29 (id : Nat) (m : AMem) (k : Nat) (r v : Int) (L : List (Int × Int)) (c : Cap) (cl : Bool) (h : m.blks[id]? = some (acc r v L c cl)) :
    den Try.prog cfg0 (k+1) (.call 29 [.ref id 0 0]) m = some (I (if cl then 29 else 0), m) := by
  rw [den_call Try.func29 rfl]
  cases cl <;> simp [Try.f29, h, acc]
@[simp] theorem p29 (id : Nat) (m : AMem) (k : Nat) (r v : Int) (L : List (Int × Int)) (c : Cap) (cl : Bool) (h : m.blks[id]? = some (acc r v L c cl)) :
    pcall (den Try.prog cfg0 (k+1)) 29 [.ref id 0 0] m = some (I (if cl then 29 else 0)) := by
  rw [pcall_of (d29 id _ k r v L c cl h), conv_v]

/-- The day of the last movement. -/
def lastDay (L : List (Int × Int)) : Int := (L.getLastD (0, 0)).1

theorem d30 (id : Nat) (m : AMem) (k : Nat) (r v d u : Int) (L : List (Int × Int)) (c : Cap) (cl lic : Bool) (hro : m.ro ≤ m.blks.length) (hid : id < m.blks.length) (h : m.blks[id]? = some (acc r v L c cl)) (hL : L ≠ []) (hn : L.length ≤ 1000000) :
    ∃ m', den Try.prog cfg0 (k+1) (.call 30 [.agg [.ref id 0 0, I d, I u, B lic]]) m = some (I (if d < lastDay L then 14 else 0), m') := by
  rw [den_call Try.func30 rfl]
  obtain ⟨L', p, rfl⟩ : ∃ L' p, L = L' ++ [p] := ⟨_, _, (List.dropLast_concat_getLast hL).symm⟩
  have e : lastDay (L' ++ [p]) = p.1 := by simp [lastDay]
  rw [e]
  have hw : IntKind.i64.wrap (L'.length : Int) = (L'.length : Int) := IntWalk.i64_in _ (by simp at hn; omega)
  by_cases hd : d < p.1 <;> simp [Try.f30, h, acc, hro, get_app_lt hid, hd, mv, hw]
@[simp] theorem p30 (id : Nat) (m : AMem) (k : Nat) (r v d u : Int) (L : List (Int × Int)) (c : Cap) (cl lic : Bool) (hid : id < m.blks.length) (h : m.blks[id]? = some (acc r v L c cl)) (hL : L ≠ []) (hn : L.length ≤ 1000000) :
    pcall (den Try.prog cfg0 (k+1)) 30 [.agg [.ref id 0 0, I d, I u, B lic]] m = some (I (if d < lastDay L then 14 else 0)) :=
  pcall_v (d30 id _ k r v d u L c cl lic (Nat.le_refl _) hid h hL hn)

/-- The first error of checks. -/
theorem p28 (m : AMem) (k : Nat) (g1 g2 : FuncId) (a1 a2 : List AV) (e1 e2 : Int) (c1 : (cfg0 g1).pol = .pure) (c2 : (cfg0 g2).pol = .pure)
    (h1 : ∀ x l nx, pcall (den Try.prog cfg0 (k+3)) g1 a1 ⟨m.blks, nx, l, x⟩ = some (I e1)) (h2 : ∀ x l nx, pcall (den Try.prog cfg0 (k+3)) g2 a2 ⟨m.blks, nx, l, x⟩ = some (I e2)) :
    pcall (den Try.prog cfg0 (k+4)) 28 [.sl 1 [.fn (.func g1) a1 [], .fn (.func g2) a2 []] .tight] m = some (I (if e1 = 0 then e2 else e1)) := by
  refine pcall_v ?_
  rw [den_call Try.func28 rfl]
  by_cases z1 : e1 = 0 <;> by_cases z2 : e2 = 0 <;> simp [Try.f28, callReq_pure c1, callReq_pure c2, h1, h2, z1, z2]
end Go.Den
