/-
  The balance of an account. Conditions: as each statement says.
-/
import Derived.Test.YtnnajbbmgponpaaDenF2
namespace Go.Den
open Go.Proofs
set_option linter.unusedSimpArgs false

theorem d31 (id : Nat) (m : AMem) (k : Nat) (hro : m.ro ≤ m.blks.length) :
    den Try.prog cfg0 (k+1) (.call 31 [.ref id 0 0]) m = some (.fn (.func 42) [] [.ref m.blks.length 0 0], { m with blks := m.blks ++ [.arr [.ref id 0 0] 1] }) := by
  rw [den_call Try.func31 rfl]
  simp [Try.f31, hro]

theorem Junk.conv {t : List ABlk} (h : Junk t) (m : AMem) (n nx : Nat) : t.map (convBlk (Den.conv m n nx)) = t := by
  induction t with
  | nil => rfl
  | cons x t ih =>
    obtain ⟨p, rfl⟩ := h x (by simp)
    rw [List.map_cons, ih (fun b hb => h b (by simp [hb]))]
    simp [mv]

/-- The balance after the movements. -/
def sumP (b : Int) (L : List (Int × Int)) : Int := L.foldl (fun b p => IntKind.i64.wrap (b + p.2)) b

theorem walk_sum : ∀ (L : List (Int × Int)) (b : Int), walkP (fun (_ _ b : Int) => (b, true)) b L b = sumP b L
  | [], _ => rfl
  | (d, u) :: L, b => by
    simp only [walkP, cond_true]
    rw [walk_sum L]
    rfl

noncomputable def pre32 (n id : Nat) (s : Int) : List ABlk :=
  [.arr [I s] 1, .arr [.ref id 0 0] 1, .dfd, .loop { state := .ready, pending := none, fn := 32, tmps := [.ref id 0 0, .v undef, I 0, .ref n 0 0, .v undef, .v undef, .ref id 0 0, .fn (.func 42) [] [.ref (n + 1) 0 0], .v undef, .v undef, .v undef, .v undef], params := #[8, 9], assign := (rangeOf Try.f32 0).1, body := (rangeOf Try.f32 0).2 }]

theorem round32 (A : List ABlk) (id nx : Nat) (lv : List Nat) (k : Nat) (hid : id < A.length) (s d b : Int) (t : List ABlk) (ht : Junk t) :
    den Try.prog cfg0 (k+1) (.round (A.length + 3) [I d, I b]) ⟨A ++ pre32 A.length id s ++ t, nx, lv, A.length⟩ = some (B true, ⟨A ++ pre32 A.length id b ++ t, nx, lv, A.length⟩) := by
  rw [den_round]
  have h1 : id < A.length + (t.length + 4) := by omega
  simp [stepRound, pre32, rangeOf, rangesOf, codeOf, Try.f32, setParams, isNormal, endOf, ht.conv, h1]

theorem d32 (id : Nat) (m : AMem) (k : Nat) (r v : Int) (L : List (Int × Int)) (c : Cap) (cl : Bool) (hro : m.ro = m.blks.length) (hid : id < m.blks.length) (h : m.blks[id]? = some (acc r v L c cl)) (hn : L.length ≤ 1000000) (hk : L.length < k) :
    ∃ m', den Try.prog cfg0 (k+3) (.call 32 [.ref id 0 0]) m = some (I (sumP 0 L), m') := by
  rw [den_call Try.func32 rfl]
  obtain ⟨t, ht, h42⟩ := d42 (pre := fun s => m.blks ++ pre32 m.blks.length id s) (f := fun (_ _ b : Int) => (b, true)) (k + 1) (m.blks.length + 4) (m.blks.length + 3) (m.blks.length + 1) id m.next m.blks.length m.live r v L c cl
    (by intro s; simp [pre32]) (by omega) hn (by omega) 0 (by rw [get_app_lt hid]; exact h) (by simp [pre32])
    (fun s t d b ht => round32 m.blks id m.next m.live k hid s d b t ht)
  rw [walk_sum] at h42
  simp [pre32, rangeOf, rangesOf, codeOf, Try.f32] at h42
  simp [Try.f32, hro, d31, exRange, layLoop, h42, afterRange, (show id < m.blks.length + 4 by omega)]

@[simp] theorem p32 (id : Nat) (m : AMem) (k : Nat) (r v : Int) (L : List (Int × Int)) (c : Cap) (cl : Bool) (hid : id < m.blks.length) (h : m.blks[id]? = some (acc r v L c cl)) (hn : L.length ≤ 1000000) (hk : L.length < k) :
    pcall (den Try.prog cfg0 (k+3)) 32 [.ref id 0 0] m = some (I (sumP 0 L)) :=
  pcall_v (d32 id _ k r v L c cl rfl hid h hn hk)

theorem d13 (id : Nat) (m : AMem) (k : Nat) (r v : Int) (L : List (Int × Int)) (c : Cap) (cl : Bool) (hid : id < m.blks.length) (h : m.blks[id]? = some (acc r v L c cl)) (hn : L.length ≤ 1000000) (hk : L.length < k) :
    ∃ m', den Try.prog cfg0 (k+4) (.call 13 [.ref id 0 0]) m = some (I (if cl then 0 else sumP 0 L), m') := by
  rw [den_call Try.func13 rfl]
  have h32 := fun x l nx => p32 id ⟨m.blks, nx, l, x⟩ k r v L c cl hid h hn hk
  cases cl <;> simp [Try.f13, h, acc, h32]
@[simp] theorem p13 (id : Nat) (m : AMem) (k : Nat) (r v : Int) (L : List (Int × Int)) (c : Cap) (cl : Bool) (hid : id < m.blks.length) (h : m.blks[id]? = some (acc r v L c cl)) (hn : L.length ≤ 1000000) (hk : L.length < k) :
    pcall (den Try.prog cfg0 (k+4)) 13 [.ref id 0 0] m = some (I (if cl then 0 else sumP 0 L)) :=
  pcall_v (d13 id _ k r v L c cl hid h hn hk)
@[simp] theorem p13_nil (m : AMem) (k : Nat) : pcall (den Try.prog cfg0 (k+4)) 13 [nilP] m = some (I 0) := by
  refine pcall_v ?_
  rw [den_call Try.func13 rfl]
  simp [Try.f13]
@[simp] theorem p12_nil (m : AMem) (k : Nat) (d : Int) (f : Bool) : pcall (den Try.prog cfg0 (k+4)) 12 [nilP, I d, B f] m = some (.tup [I 0, I 1]) := by
  unfold pcall
  rw [den_call Try.func12 rfl]
  simp [Try.f12]
end Go.Den
