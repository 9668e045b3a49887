/-
  Units are corrected: the walk. Conditions: as each statement says.
-/
import Derived.Test.YtnnajbbmgponpaaDenF10
namespace Go.Den
open Go.Proofs
set_option linter.unusedSimpArgs false

theorem p28a (m : AMem) (k : Nat) (g1 : FuncId) (a1 : List AV) (e1 : Int) (c1 : (cfg0 g1).pol = .pure)
    (h1 : ∀ x l nx, pcall (den Try.prog cfg0 (k+3)) g1 a1 ⟨m.blks, nx, l, x⟩ = some (I e1)) :
    pcall (den Try.prog cfg0 (k+4)) 28 [.sl 1 [.fn (.func g1) a1 []] .tight] m = some (I e1) := by
  refine pcall_v ?_
  rw [den_call Try.func28 rfl]
  by_cases z1 : e1 = 0 <;> simp [Try.f28, callReq_pure c1, h1, z1]

def fC (_ : Bool) (_ b : Int) : Bool × Bool := (!inR b 0 1000000000000, inR b 0 1000000000000)
def corL (L : List (Int × Int)) (i u : Int) : List (Int × Int) := L.set i.toNat ((L.getD i.toNat (0, 0)).1, u)
/-- The error of Correct. -/
def corE (L : List (Int × Int)) (cl : Bool) (i u : Int) : Int :=
  if inR u (-1000000000000) 1000000000000 then (if cl then 29 else if inR i 0 (w64 (L.length - 1)) then (if walkP fC false (corL L i u) 0 then 21 else 0) else 11) else 1

theorem before14 (n id : Nat) (hid : id < n) : freeAll (Region.before (regionOf Try.f14 9)) [.none, .none, .none, .rd (n + 2), .none, .none, .none, .rd id, .wr (n + 1)] = true := by
  have h0 : freeAll (Region.before (regionOf Try.f14 9)) [.none, .none, .none, .rd 2, .none, .none, .none, .rd 0, .wr 1] = true := by kernel_rfl
  have h1 := freeAll_ren (fun i => [id, n + 1, n + 2].getD i 0) 3 (by
    intro i j hi hj h
    match i, j, hi, hj with
    | 0, 0, _, _ | 1, 1, _, _ | 2, 2, _, _ => rfl
    | 0, 1, _, _ | 1, 0, _, _ | 0, 2, _, _ | 2, 0, _, _ | 1, 2, _, _ | 2, 1, _, _ => simp at h <;> omega
    | (i + 3), _, hi, _ => omega
    | _, (j + 3), _, hj => omega) (by rfl) h0
  exact h1

noncomputable def tmps14 (n id : Nat) (u : Int) (j : Nat) (L : List (Int × Int)) (c : Cap) : List AV :=
  [AV.ref id 0 0, I j, I u, AV.v undef, AV.v undef, AV.v undef, AV.ref n 0 0, I 0, AV.ref (n + 2) 0 0, AV.v undef, AV.v undef, AV.ref id 0 0, AV.v (Value.bool false), AV.v (Value.bool false), I u, B true, AV.v (Value.bool false), AV.v (Value.bool false), AV.ref id 0 0, AV.fn (Fn.func 29) [AV.ref id 0 0] [], AV.sl 1 [AV.fn (Fn.func 29) [AV.ref id 0 0] []] Cap.tight, I 0, I 0, AV.v (Value.bool false), AV.v undef, I j, AV.ref id 0 0, AV.ref id 0 0, AV.ref id 0 2, AV.sl 2 (List.map mv L) c, AV.v (Value.int IntKind.i64 L.length), AV.v (Value.int IntKind.i64 ((L.length : Int) - 1)), B true, AV.v (Value.bool false), AV.ref id 0 0, AV.ref id 0 0, AV.ref id 0 2, AV.sl 2 (List.map mv L) c, AV.v (Value.int IntKind.i64 L.length), AV.own 2 (n + 1) 0 L.length, AV.agg [AV.v (Value.int IntKind.i64 0), AV.v (Value.int IntKind.i64 0), AV.own 2 (n + 1) 0 L.length, AV.v (Value.bool false)], AV.ref (n + 2) 0 0, AV.ref (n + 2) 0 0, AV.ref (n + 2) 0 0, AV.ref (n + 2) 0 2, AV.own 2 (n + 1) 0 L.length, AV.ref id 0 0, AV.ref id 0 0, AV.ref id 0 2, AV.sl 2 (List.map mv L) c, AV.v (Value.int IntKind.i64 L.length), AV.ref (n + 2) 0 0, AV.ref (n + 2) 0 0, AV.ref (n + 2) 0 2, AV.own 2 (n + 1) 0 L.length, I j, I u, AV.ref (n + 1) j 0, AV.ref (n + 1) j 1, AV.ref (n + 2) 0 0, AV.fn (Fn.func 42) [] [AV.ref (n + 3) 0 0], AV.v undef, AV.v undef, AV.v undef, AV.v undef, AV.v undef, AV.v undef, AV.v undef, AV.v undef, AV.v undef, AV.v undef, AV.v undef, AV.v undef]

noncomputable def pre14 (n id : Nat) (u : Int) (j : Nat) (L L' : List (Int × Int)) (c : Cap) (s : Bool) : List ABlk :=
  [.arr [I (if s then 21 else 0)] 1, .arr (L'.map mv) 2, accO (n + 1) L.length, .arr [.ref (n + 2) 0 0] 1, .dfd, .loop { state := if s then .done else .ready, pending := if s then some .ret else none, fn := 14, tmps := tmps14 n id u j L c, params := #[61, 62], assign := (rangeOf Try.f14 0).1, body := (rangeOf Try.f14 0).2 }]

theorem round14 (A : List ABlk) (id nx ro : Nat) (lv : List Nat) (k : Nat) (hA : ∀ b ∈ A, Still A.length nx b) (hro : ro ≤ A.length) (hid : id < A.length) (u : Int) (j : Nat) (L L' : List (Int × Int)) (c : Cap) (hc : convCap nx c = c) (d b : Int) (t : List ABlk) (ht : Junk t) :
    den Try.prog cfg0 (k+2) (.round (A.length + 5) [I d, I b]) ⟨A ++ pre14 A.length id u j L L' c false ++ t, nx, lv, ro⟩ = some (B (fC false d b).2, ⟨A ++ pre14 A.length id u j L L' c (fC false d b).1 ++ t, nx, lv, ro⟩) := by
  rw [den_round]
  have h1 : id < A.length + (t.length + 6) := by omega
  have hrk : ∀ k, ro ≤ A.length + k := fun k => by omega
  have hsh := fun X n h => shrink_over (X := X) (lv := lv) (n := n) hro h hA
  have hm : ∀ m n, L.map (conv m n nx ∘ mv) = L.map mv := fun m n => List.map_congr_left fun q _ => conv_mv m n nx q
  have hm' : ∀ m n, L'.map (conv m n nx ∘ mv) = L'.map mv := fun m n => List.map_congr_left fun q _ => conv_mv m n nx q
  have ho : ∀ m, conv m (A.length + (t.length + 6)) nx (.own 2 (A.length + 1) 0 L.length) = .own 2 (A.length + 1) 0 L.length := fun m => conv_own_lt (by omega)
  cases hb : inR b 0 1000000000000 <;> simp [stepRound, pre14, tmps14, hro, rangeOf, rangesOf, codeOf, Try.f14, setParams, isNormal, endOf, ht.conv, h1, hc, fC, hb, hrk, hsh, hm, hm', ho, accO]

theorem corL_len (L : List (Int × Int)) (i u : Int) : (corL L i u).length = L.length := by simp [corL]

/-- What Correct leaves behind the account. -/
def J14 (n : Nat) (L L' : List (Int × Int)) (s : Bool) : List ABlk := [.arr [I (if s then 21 else 0)] 1, .arr (L'.map mv) 2, accO (n + 1) L.length, .arr [.ref (n + 2) 0 0] 1, .gone, .gone]
set_option maxHeartbeats 4000000 in
theorem d14x (id : Nat) (m : AMem) (k : Nat) (r v i u : Int) (L : List (Int × Int)) (c : Cap) (hst : ∀ b ∈ m.blks, Still m.blks.length m.next b) (hc : convCap m.next c = c) (hro : m.ro ≤ id) (hid : id < m.blks.length) (h : m.blks[id]? = some (acc r v L c false)) (hn : L.length ≤ 1000000) (hk : L.length < k)
    (hu : inR u (-1000000000000) 1000000000000 = true) (hi : 0 ≤ i) (hi2 : i < L.length) :
    den Try.prog cfg0 (k+6) (.call 14 [.ref id 0 0, I i, I u]) m = some (I (if walkP fC false (corL L i u) 0 then 21 else 0), if walkP fC false (corL L i u) 0 then ⟨m.blks ++ J14 m.blks.length L (corL L i u) true, m.next, m.live, m.ro⟩ else ⟨m.blks.set id (.arr [.agg [I r, I v, .own 2 (m.blks.length + 1) 0 L.length, B false]] 4) ++ J14 m.blks.length L (corL L i u) false, m.next, m.live, m.ro⟩) := by
  rw [den_call Try.func14 rfl]
  have hX : ∀ X : List ABlk, (m.blks ++ X)[id]? = some (acc r v L c false) := fun X => by rw [get_app_lt hid]; exact h
  have e1 := fun X x l nx => p29 id ⟨m.blks ++ X, nx, l, x⟩ (k + 3) r v L c false (hX X)
  have h28 := fun X x l nx => p28a ⟨m.blks ++ X, nx, l, x⟩ (k + 1) 29 [.ref id 0 0] 0 rfl (by intro x l nx; simpa using e1 X x l nx)
  have hro' : m.ro ≤ m.blks.length := by omega
  have hw : w64 ((L.length : Int) - 1) = L.length - 1 := wrap_fit (by omega) (by omega)
  have hin : inR i 0 ((L.length : Int) - 1) = true := by simp [inR]; omega
  have hroom : roomFor L.length 16 = true := by simp [roomFor]; omega
  obtain ⟨j, rfl⟩ : ∃ j : Nat, i = j := ⟨i.toNat, by omega⟩
  have hj : j < L.length := by omega
  obtain ⟨p, hp⟩ : ∃ p, L[j]? = some p := ⟨_, List.getElem?_eq_getElem hj⟩
  have hrk : ∀ k, m.ro ≤ m.blks.length + k := fun k => by omega
  have hij : ∀ (x y : Option Req), (if j < L.length then x else y) = x := fun x y => if_pos hj
  have htk : (L.map mv).take L.length = L.map mv := List.take_of_length_le (by simp)
  have hle : (L.length : Int) ≤ 9223372036854775807 := by omega
  have hb := before14 m.blks.length id hid
  simp [regionOf, regionsOf, codeOf, Try.f14] at hb
  have hset : (L.map mv).set j (.agg [I p.1, I u]) = (corL L j u).map mv := by
    rw [show (AV.agg [I p.1, I u]) = mv (p.1, u) from rfl, ← List.map_set]
    simp [corL, List.getD, hp]
  have hl := corL_len L j u
  obtain ⟨t, ht, h42⟩ := d42o (pre := fun s => m.blks ++ pre14 m.blks.length id u j L (corL L j u) c s) (f := fC) (k + 4) (m.blks.length + 6) (m.blks.length + 5) (m.blks.length + 3) (m.blks.length + 2) m.next m.ro (m.blks.length + 1) m.live (corL L j u) (fun s => s = false)
    (by intro s d b hs hf; simp only [fC] at hf ⊢; simp [hf]) (by intro s; simp [pre14]) (by omega) (by omega) (by omega) false (by simp [pre14, hl]) (by omega) (by intro s; simp [pre14]) rfl (by simp [pre14])
    (fun s t d b hs ht => by subst hs; exact round14 m.blks id m.next m.ro m.live (k + 2) hst hro' hid u j L (corL L j u) c hc d b t ht)
  simp [pre14, tmps14, rangeOf, rangesOf, codeOf, Try.f14, accO] at h42
  generalize walkP fC false (corL L j u) 0 = bad at h42 ⊢
  have hsh := fun X n h => shrink_over (X := X) (lv := m.live) (n := n) hro' h hst
  have hm' : ∀ m' n, (corL L j u).map (conv m' n m.next ∘ mv) = (corL L j u).map mv := fun m' n => List.map_congr_left fun q _ => conv_mv m' n m.next q
  have ho : ∀ m', conv m' (m.blks.length + 6) m.next (.own 2 (m.blks.length + 1) 0 L.length) = .own 2 (m.blks.length + 1) 0 L.length := fun m' => conv_own_lt (by omega)
  have hif : ∀ (x y : AV), (if id < m.blks.length + 6 then x else y) = x := fun x y => if_pos (by omega)
  have hset2 : ∀ (X : List ABlk) (x : ABlk), (m.blks ++ X).set id x = m.blks.set id x ++ X := fun X x => set_app_lt hid
  cases bad <;> simp -implicitDefEqProofs [Try.f14, hro, hif, hsh, hm', ho, hset2, exitOf, J14, accO, hij, htk, hrk, hle, hb, hro', hu, h28, hX, acc, d31, mv, exRange, layLoop, afterRange, hw, hin, hroom, copyReq, itemsA, hp, hset, h42]
end Go.Den
