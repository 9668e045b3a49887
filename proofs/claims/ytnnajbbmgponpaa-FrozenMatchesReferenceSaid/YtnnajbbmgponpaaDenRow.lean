/-
  What a law's row needs of its arguments: they stand for abstract values of their types' shapes, and they read behind the call as they did. Conditions: as each statement says.
-/
import Derived.Test.YtnnajbbmgponpaaDenLaw
import Derived.OpenShut
namespace Go.Den
open Go.RowKit Go.ChangeShapes Go.WideShapes Go.ChangeAt

def ShAll (P : Program) : List TypeId → List AV → Prop
  | [], avs => avs = []
  | t :: ts, avs => ∃ n av avs', avs = av :: avs' ∧ Sh P n t av ∧ ShAll P ts avs'

theorem open_all {H : Type} {en : TypeId × Value → H} {P : Program} {w : World} {base : Nat} : ∀ {ts : List TypeId} {vs : List Value} {ds : List (DataW H)} {ps : List MemPlace}, (∀ t ∈ ts, ∀ n, plainType P n t = true) →
    (∀ (j : Nat) t v, ts[j]? = some t → vs[j]? = some v → Value.okWide P w .any base t v) → DataW.TrodAll en P w 0 (fun _ => true) true ts vs ds ps → ∃ avs, ShAll P ts avs ∧ Reps (Cx.start w) w avs vs
  | [], vs, ds, ps, _, _, h => by
    obtain ⟨rfl, _, _⟩ := Go.ChangeShapes.trodAll_nil h
    exact ⟨[], rfl, rfl⟩
  | t :: ts, vs, ds, ps, hp, hval, h => by
    obtain ⟨v, vs', d, ds', p, q, rfl, rfl, rfl, h1, h2⟩ := Go.ChangeShapes.trodAll_cons h
    obtain ⟨n, av, h3, h4⟩ := open_sh (hp t (by simp)) (hval 0 t v rfl rfl) h1
    obtain ⟨avs, h5, h6⟩ := open_all (fun t ht => hp t (by simp [ht])) (fun j t v h h' => hval (j + 1) t v (by simpa using h) (by simpa using h')) h2
    exact ⟨av :: avs, ⟨n, av, avs, rfl, h3, h5⟩, ⟨v, vs', rfl, h4, h6⟩⟩

theorem args_back {H : Type} {en : TypeId × Value → H} {P : Program} (hl : laidOutB P = true) {w w' : World} (hb : Below w.heap.size w w') {sp : Nat → Bool} : ∀ {ts : List TypeId} {vs : List Value} {ds : List (DataW H)} {ps : List MemPlace}, (∀ t ∈ ts, P.readableRec t = true ∧ t < P.types.size) →
    (∀ x ∈ ps, x.block < w.heap.size) → (∀ x ∈ ps, sp x.block = true) → DataW.TrodAll en P w 0 (fun _ => true) true ts vs ds ps → DataW.TrodAll en P w' 0 sp true ts vs ds ps
  | [], vs, ds, ps, _, _, _, h => by
    obtain ⟨rfl, rfl, rfl⟩ := Go.ChangeShapes.trodAll_nil h
    exact Go.ChangeShapes.trodAll_mk0
  | t :: ts, vs, ds, ps, ht, hlt, hsp, h => by
    obtain ⟨v, vs', d, ds', p, q, rfl, rfl, rfl, h1, h2⟩ := Go.ChangeShapes.trodAll_cons h
    have h3 := WideElems.Trod_stays hl (ht t (by simp)).1 (ht t (by simp)).2 h1 (fun x hx => hb.same (hlt x (by simp [hx]))) (sp' := sp) (fun x hx => hsp x (by simp [hx]))
    exact trodAll_cons_mk h3 (args_back hl hb (fun t h => ht t (by simp [h])) (fun x hx => hlt x (by simp [hx])) (fun x hx => hsp x (by simp [hx])) h2)

theorem plain_of {P : Program} {t : TypeId} {m : Nat} (h : ∀ n, n < m → plainType P n t = true) (hm : ∀ n, m ≤ n → plainType P n t = true) : ∀ n, plainType P n t = true := fun n => by
  by_cases hn : n < m
  · exact h n hn
  · exact hm n (by omega)
end Go.Den
