/-
  The interest of an account. Conditions: as each statement says.
-/
import Derived.Test.YtnnajbbmgponpaaDenF3
namespace Go.Den
open Go.Proofs
set_option linter.unusedSimpArgs false

abbrev w64 (n : Int) : Int := IntKind.i64.wrap n

/-- A round of the interest: the total, the day of the last movement, the balance behind it. -/
def stepI (s : Int × Int × Int) (d b : Int) : (Int × Int × Int) × Bool := ((w64 (s.1 + w64 (s.2.2 * w64 (d - s.2.1))), d, b), true)

theorem before12 (n id : Nat) (hid : id < n) : freeAll (Region.before (regionOf Try.f12 6)) [.none, .none, .none, .rd id, .none, .none, .none, .wr n, .wr (n + 1), .wr (n + 2), .wr n, .wr (n + 1), .wr (n + 2)] = true := by
  have h0 : freeAll (Region.before (regionOf Try.f12 6)) [.none, .none, .none, .rd 0, .none, .none, .none, .wr 1, .wr 2, .wr 3, .wr 1, .wr 2, .wr 3] = true := by kernel_rfl
  have h1 := freeAll_ren (fun i => [id, n, n + 1, n + 2].getD i 0) 4 (by
    intro i j hi hj h
    match i, j, hi, hj with
    | 0, 0, _, _ | 1, 1, _, _ | 2, 2, _, _ | 3, 3, _, _ => rfl
    | 0, 1, _, _ | 0, 2, _, _ | 0, 3, _, _ | 1, 0, _, _ | 1, 2, _, _ | 1, 3, _, _ | 2, 0, _, _ | 2, 1, _, _ | 2, 3, _, _ | 3, 0, _, _ | 3, 1, _, _ | 3, 2, _, _ => simp at h <;> omega
    | (i + 4), _, hi, _ => omega
    | _, (j + 4), _, hj => omega) (by rfl) h0
  exact h1

noncomputable def tmps12 (n id : Nat) (day : Int) (f : Bool) (p : Int × Int) (L : List (Int × Int)) (c : Cap) : List AV :=
  [.ref id 0 0, I day, B f, .v undef, .v undef, .v undef, I 0, I 0, I 0, .ref n 0 0, .ref (n + 1) 0 0, .ref (n + 2) 0 0, .v undef, .v undef, .v undef, .ref id 0 0, B false, B false, I day, B true, B false, B false, .ref id 0 0, .fn (.func 29) [.ref id 0 0] [], .ref id 0 0, I day, .agg [I day, I 0], .agg [.ref id 0 0, I day, I 0, B false], .fn (.func 30) [.agg [.ref id 0 0, I day, I 0, B false]] [], .sl 1 [.fn (.func 29) [.ref id 0 0] [], .fn (.func 30) [.agg [.ref id 0 0, I day, I 0, B false]] []] .tight, I 0, I 0, B false, .v undef, .ref id 0 0, .ref id 0 0, .ref id 0 2, .sl 2 (.agg [I p.1, I p.2] :: L.map mv) c, .eref (.agg [I p.1, I p.2]), .eref (I p.1), I p.1, .ref id 0 0, .fn (.func 42) [] [.ref (n + 3) 0 0]] ++ List.replicate 39 (.v undef)

noncomputable def pre12 (n id : Nat) (day : Int) (f : Bool) (p : Int × Int) (L : List (Int × Int)) (c : Cap) (s : Int × Int × Int) : List ABlk :=
  [.arr [I s.1] 1, .arr [I s.2.1] 1, .arr [I s.2.2] 1, .arr [.ref id 0 0] 1, .dfd, .loop { state := .ready, pending := none, fn := 12, tmps := tmps12 n id day f p L c, params := #[43, 44], assign := (rangeOf Try.f12 0).1, body := (rangeOf Try.f12 0).2 }]

@[simp] theorem conv_mv (m : AMem) (n nx : Nat) (q : Int × Int) : conv m n nx (mv q) = mv q := by simp [mv]

theorem round12 (A : List ABlk) (id nx : Nat) (lv : List Nat) (k : Nat) (hid : id < A.length) (day : Int) (f : Bool) (p : Int × Int) (L : List (Int × Int)) (c : Cap) (hc : convCap nx c = c) (s : Int × Int × Int) (d b : Int) (t : List ABlk) (ht : Junk t) :
    den Try.prog cfg0 (k+1) (.round (A.length + 5) [I d, I b]) ⟨A ++ pre12 A.length id day f p L c s ++ t, nx, lv, A.length⟩ = some (B true, ⟨A ++ pre12 A.length id day f p L c (stepI s d b).1 ++ t, nx, lv, A.length⟩) := by
  rw [den_round]
  have h1 : id < A.length + (t.length + 6) := by omega
  simp [stepRound, pre12, tmps12, rangeOf, rangesOf, codeOf, Try.f12, setParams, isNormal, endOf, ht.conv, h1, stepI, hc]

/-- The total of the balances of all days up to a day. -/
def totI (L : List (Int × Int)) (day : Int) : Int :=
  let s := walkP stepI (0, (L.headD (0, 0)).1, 0) L 0
  w64 (s.1 + w64 (s.2.2 * w64 (day - s.2.1)))
/-- The interest of a total. -/
def valI (t rate : Int) : Int := w64 (w64 (w64 (t.tdiv 3650000) * rate) + w64 ((w64 (t.tmod 3650000 * rate)).tdiv 3650000))

theorem d12x (id : Nat) (m : AMem) (k : Nat) (r v day : Int) (f : Bool) (L : List (Int × Int)) (c : Cap) (hc : convCap m.next c = c) (hro : m.ro = m.blks.length) (hid : id < m.blks.length) (h : m.blks[id]? = some (acc r v L c false)) (hn : L.length ≤ 1000000) (hk : L.length < k) (hL : L ≠ [])
    (hd : inR day 0 100000 = true) (hlast : ¬ day < lastDay L) :
    ∃ m', den Try.prog cfg0 (k+6) (.call 12 [.ref id 0 0, I day, B f]) m = some (.tup [I (valI (totI L day) (if f then v else r)), I 0], m') := by
  rw [den_call Try.func12 rfl]
  obtain ⟨p, L', rfl⟩ : ∃ p L', L = p :: L' := by cases L with | nil => exact absurd rfl hL | cons p L' => exact ⟨p, L', rfl⟩
  have e1 := fun x l nx => p29 id ⟨m.blks, nx, l, x⟩ (k + 3) r v (p :: L') c false h
  have e2 := fun x l nx => p30 id ⟨m.blks, nx, l, x⟩ (k + 3) r v day 0 (p :: L') c false false hid h hL hn
  have h28 := fun x l nx => p28 ⟨m.blks, nx, l, x⟩ (k + 1) 29 30 [.ref id 0 0] [.agg [.ref id 0 0, I day, I 0, B false]] 0 0 rfl rfl (by intro x l nx; simpa using e1 x l nx) (by intro x l nx; simpa [hlast] using e2 x l nx)
  have hfr := before12 m.blks.length id hid
  simp [regionOf, regionsOf, codeOf, Try.f12] at hfr
  obtain ⟨t, ht, h42⟩ := d42 (pre := fun s => m.blks ++ pre12 m.blks.length id day f p L' c s) (f := stepI) (k + 4) (m.blks.length + 6) (m.blks.length + 5) (m.blks.length + 3) id m.next m.blks.length m.live r v (p :: L') c false
    (by intro s; simp [pre12]) (by omega) hn (by omega) (0, p.1, 0) (by rw [get_app_lt hid]; exact h) (by simp [pre12])
    (fun s t d b ht => round12 m.blks id m.next m.live (k + 3) hid day f p L' c hc s d b t ht)
  simp [pre12, tmps12, rangeOf, rangesOf, codeOf, Try.f12] at h42
  have hif : ∀ (x y : AV), (if id < m.blks.length + 6 then x else y) = x := fun x y => if_pos (by omega)
  cases f <;> simp [Try.f12, hro, hd, h28, h, acc, d31, mv, get_app_lt hid, hfr, exRange, layLoop, h42, afterRange, hif, totI, valI]
end Go.Den
