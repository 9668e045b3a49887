/-
  The interest of an account, its errors too. Conditions: as each statement says.
-/
import Derived.Test.YtnnajbbmgponpaaDenF5
namespace Go.Den
open Go.Proofs
set_option linter.unusedSimpArgs false

/-- The error of the interest. -/
def intE (L : List (Int × Int)) (cl : Bool) (day : Int) : Int :=
  if inR day 0 100000 then (if cl then 29 else if day < lastDay L then 14 else 0) else 1
/-- The interest. -/
def intV (r v : Int) (L : List (Int × Int)) (cl : Bool) (day : Int) (f : Bool) : Int :=
  if intE L cl day = 0 then valI (totI L day) (if f then v else r) else 0

theorem d12 (id : Nat) (m : AMem) (k : Nat) (r v day : Int) (f cl : Bool) (L : List (Int × Int)) (c : Cap) (hc : convCap m.next c = c) (hro : m.ro = m.blks.length) (hid : id < m.blks.length) (h : m.blks[id]? = some (acc r v L c cl)) (hn : L.length ≤ 1000000) (hk : L.length < k) (hL : L ≠ []) :
    ∃ m', den Try.prog cfg0 (k+6) (.call 12 [.ref id 0 0, I day, B f]) m = some (.tup [I (intV r v L cl day f), I (intE L cl day)], m') := by
  cases hd : inR day 0 100000
  · rw [den_call Try.func12 rfl]
    simp [Try.f12, hro, hd, intV, intE]
  have e1 := fun x l nx => p29 id ⟨m.blks, nx, l, x⟩ (k + 3) r v L c cl h
  have e2 := fun x l nx => p30 id ⟨m.blks, nx, l, x⟩ (k + 3) r v day 0 L c cl false hid h hL hn
  cases cl
  · by_cases hlast : day < lastDay L
    · have h28 := fun x l nx => p28 ⟨m.blks, nx, l, x⟩ (k + 1) 29 30 [.ref id 0 0] [.agg [.ref id 0 0, I day, I 0, B false]] 0 14 rfl rfl (by intro x l nx; simpa using e1 x l nx) (by intro x l nx; simpa [hlast] using e2 x l nx)
      rw [den_call Try.func12 rfl]
      simp [Try.f12, hro, hd, h28, h, acc, get_app_lt hid, intV, intE, hlast]
    · obtain ⟨m', hm⟩ := d12x id m k r v day f L c hc hro hid h hn hk hL hd hlast
      refine ⟨m', ?_⟩
      rw [hm]
      simp [intV, intE, hd, hlast]
  · have h28 := fun x l nx => p28 ⟨m.blks, nx, l, x⟩ (k + 1) 29 30 [.ref id 0 0] [.agg [.ref id 0 0, I day, I 0, B false]] 29 (if day < lastDay L then 14 else 0) rfl rfl (by intro x l nx; simpa using e1 x l nx) (by intro x l nx; simpa using e2 x l nx)
    rw [den_call Try.func12 rfl]
    simp [Try.f12, hro, hd, h28, h, acc, get_app_lt hid, intV, intE]
@[simp] theorem p12 (id : Nat) (m : AMem) (k : Nat) (r v day : Int) (f cl : Bool) (L : List (Int × Int)) (c : Cap) (hc : convCap m.next c = c) (hid : id < m.blks.length) (h : m.blks[id]? = some (acc r v L c cl)) (hn : L.length ≤ 1000000) (hk : L.length < k) (hL : L ≠ []) :
    pcall (den Try.prog cfg0 (k+6)) 12 [.ref id 0 0, I day, B f] m = some (.tup [I (intV r v L cl day f), I (intE L cl day)]) := by
  obtain ⟨m', hm⟩ := d12 id ⟨m.blks, m.next, [], m.blks.length⟩ k r v day f cl L c hc rfl hid h hn hk hL
  rw [pcall_of hm]
  simp
end Go.Den
