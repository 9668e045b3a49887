/-
  How abstract values and the abstract memory stand for values and a world; what an extension of the world keeps. Conditions: as each statement says.
-/
import Derived.Test.YtnnajbbmgponpaaDenDef
import Derived.Laws.Sem
import Derived.Laws.World
import Derived.Laws.Rows
import Derived.Laws.Cells
namespace Go.Den

/-- Where an abstract block lies: its block, the cells of an element, how many elements. -/
structure BI where
  b : Nat
  sz : Nat
  cnt : Nat

structure Cx where
  blk : Nat → Option BI
  tok : Nat → Option (Nat × Nat)
  imm : Nat → Nat → Prop

/-- The values lie in the cells from off on; p holds of each place. -/
def Stored (p : Nat → Prop) (w : World) (b off : Nat) (vs : List Value) : Prop :=
  ∀ j x, vs[j]? = some x → p (off + j) ∧ w.cell? ⟨b, off + j, none⟩ = some x ∧ x.oneCell' = true

def CapOk (C : Cx) (w : World) (c : Cap) (a : Addr) (sz n cap : Nat) : Prop :=
  match c with
  | .no => True
  | .tight => cap = n
  | .tok t => cap = n ∨ (a.spot = none ∧ C.tok t = some (a.block, a.off + n * sz) ∧ ∃ (arr : Array Value) (e : TypeId), w.heap[a.block]? = some (Obj.cells arr e (0, 0)) ∧ a.off + cap * sz ≤ arr.size)

mutual
def Rep (C : Cx) (w : World) : AV → Value → Prop
  | .any, _ => True
  | .v x, y => y = x
  | .agg cs, y => ∃ ys, y = .agg ys ∧ Reps C w cs ys.toList ∧ ∀ c ∈ ys.toList, c.oneCell' = true
  | .tup cs, y => ∃ ys, y = .tuple ys ∧ Reps C w cs ys.toList
  | .sl sz es c, y => ∃ (a : Addr) (cap : Nat), y = .slice (some a) es.length cap ∧ es.length ≤ cap ∧ (a.spot = none ∨ es = []) ∧ Elems C w a.block (C.imm a.block) sz a.off es ∧ CapOk C w c a sz es.length cap
  | .own sz id off n, y => ∃ bi cap, C.blk id = some bi ∧ bi.sz = sz ∧ y = .slice (some ⟨bi.b, off * bi.sz, none⟩) n cap ∧ n ≤ cap ∧ off + cap ≤ bi.cnt
  | .ref id i off, y => ∃ bi, C.blk id = some bi ∧ y = .pointer (some ⟨bi.b, i * bi.sz + off, none⟩)
  | .eref e, y => ∃ b off v, y = .pointer (some ⟨b, off, none⟩) ∧ Rep C w e v ∧ Stored (C.imm b) w b off v.cells.toList
  | .fn f fs cs, y => ∃ a b, y = .func f a b ∧ Reps C w fs a.toList ∧ Reps C w cs b.toList
  | .ifc t x, y => ∃ z, y = .iface t z ∧ Rep C w x z
  | .map id, y => ∃ bi, C.blk id = some bi ∧ y = .map (some bi.b)
  | .yld id, y => ∃ bi, C.blk id = some bi ∧ y = .func (.yield bi.b) #[] #[]
def Reps (C : Cx) (w : World) : List AV → List Value → Prop
  | [], ys => ys = []
  | x :: xs, ys => ∃ y ys', ys = y :: ys' ∧ Rep C w x y ∧ Reps C w xs ys'
def Elems (C : Cx) (w : World) (b : Nat) (p : Nat → Prop) (sz : Nat) (off : Nat) : List AV → Prop
  | [] => True
  | e :: es => (∃ v, Rep C w e v ∧ v.cells.size = sz ∧ Stored p w b off v.cells.toList) ∧ Elems C w b p sz (off + sz) es
end

inductive MapRep (C : Cx) (w : World) : List (Value × AV) → List MapEntry → Prop
  | nil : MapRep C w [] []
  | cons {k x es e ents} : e.key = k → Rep C w x e.val → MapRep C w es ents → MapRep C w ((k, x) :: es) (e :: ents)

def BlkOk (C : Cx) (w : World) (id : Nat) : ABlk → Prop
  | .free => C.blk id = none
  | .gone => True
  | .arr es sz => ∃ (b : Nat) (arr : Array Value) (e : TypeId), C.blk id = some ⟨b, sz, es.length⟩ ∧ w.heap[b]? = some (Obj.cells arr e (0, 0)) ∧ arr.size = es.length * sz ∧ Elems C w b (fun _ => True) sz 0 es
  | .vec es sz => ∃ (b cnt : Nat) (arr : Array Value) (e : TypeId), C.blk id = some ⟨b, sz, cnt⟩ ∧ w.heap[b]? = some (Obj.cells arr e (0, 0)) ∧ es.length ≤ cnt ∧ cnt * sz ≤ arr.size ∧ cnt ≤ 9223372036854775807 ∧ Elems C w b (fun _ => True) sz 0 es
  | .map es => ∃ bi ents clock, C.blk id = some bi ∧ w.heap[bi.b]? = some (Obj.map ents clock) ∧ MapRep C w es ents.toList
  | .loop l => ∃ bi L, C.blk id = some bi ∧ w.heap[bi.b]? = some (Obj.loop L) ∧ L.state = l.state ∧ L.pending = l.pending ∧ L.params = l.params ∧ L.assign = l.assign ∧ L.body = l.body ∧ Reps C w l.tmps L.tmps.toList ∧ codeOk l.assign = true ∧ codeOk l.body = true
  | .dfd => ∃ bi, C.blk id = some bi ∧ w.heap[bi.b]? = some (Obj.deferred (some []))

structure Sim (C : Cx) (w : World) (m : AMem) : Prop where
  dom : ∀ id bi, C.blk id = some bi → id < m.blks.length
  lt : ∀ id bi, C.blk id = some bi → bi.b < w.heap.size
  blk : ∀ id b, m.blks[id]? = some b → BlkOk C w id b
  inj : ∀ i j bi bj, C.blk i = some bi → C.blk j = some bj → bi.b = bj.b → i < j → m.blks[i]? = some .gone ∧ (i < m.ro ↔ j < m.ro)
  nimm : ∀ id bi o, C.blk id = some bi → m.blks[id]? ≠ some .gone → ¬ C.imm bi.b o
  immlt : ∀ b o, C.imm b o → b < w.heap.size
  tlt : ∀ t x, C.tok t = some x → t < m.next ∧ x.1 < w.heap.size
  tok : ∀ t, t ∈ m.live → ∃ b fo, C.tok t = some (b, fo) ∧ (∀ o, fo ≤ o → ¬ C.imm b o) ∧ ∀ id bi, C.blk id = some bi → bi.b ≠ b
  tinj : ∀ t t' b fo fo', t ∈ m.live → t' ∈ m.live → C.tok t = some (b, fo) → C.tok t' = some (b, fo') → t = t'
  nodup : m.live.Nodup
  rolen : m.ro ≤ m.blks.length

structure Ext (C : Cx) (w : World) (C' : Cx) (w' : World) : Prop where
  heap : w.heap.size ≤ w'.heap.size
  blk : ∀ id bi, C.blk id = some bi → C'.blk id = some bi
  tok : ∀ t x, C.tok t = some x → C'.tok t = some x
  imm : ∀ b o, C.imm b o → C'.imm b o ∧ w'.cell? ⟨b, o, none⟩ = w.cell? ⟨b, o, none⟩
  shp : ∀ (b : Nat) (arr : Array Value) (e : TypeId) (fr : Nat × Nat), w.heap[b]? = some (Obj.cells arr e fr) → ∃ arr' : Array Value, w'.heap[b]? = some (Obj.cells arr' e fr) ∧ arr'.size = arr.size

theorem Ext.refl (C : Cx) (w : World) : Ext C w C w := ⟨Nat.le_refl _, fun _ _ h => h, fun _ _ h => h, fun _ _ h => ⟨h, rfl⟩, fun _ arr _ _ h => ⟨arr, h, rfl⟩⟩

theorem Ext.trans {C C1 C2 : Cx} {w w1 w2 : World} (h : Ext C w C1 w1) (k : Ext C1 w1 C2 w2) : Ext C w C2 w2 :=
  ⟨Nat.le_trans h.heap k.heap, fun i b e => k.blk i b (h.blk i b e), fun t x e => k.tok t x (h.tok t x e),
   fun b o e => ⟨(k.imm b o (h.imm b o e).1).1, (k.imm b o (h.imm b o e).1).2.trans (h.imm b o e).2⟩,
   fun b arr e fr hb => by
    obtain ⟨a1, h1, s1⟩ := h.shp b arr e fr hb
    obtain ⟨a2, h2, s2⟩ := k.shp b a1 e fr h1
    exact ⟨a2, h2, s2.trans s1⟩⟩

theorem Stored.ext {C C' : Cx} {w w' : World} (h : Ext C w C' w') {b off : Nat} {vs : List Value} (hs : Stored (C.imm b) w b off vs) : Stored (C'.imm b) w' b off vs :=
  fun j x hx => let ⟨a, c, d⟩ := hs j x hx; ⟨(h.imm _ _ a).1, (h.imm _ _ a).2.trans c, d⟩

theorem CapOk.ext {C C' : Cx} {w w' : World} (h : Ext C w C' w') {c : Cap} {a : Addr} {sz n cap : Nat} (hc : CapOk C w c a sz n cap) : CapOk C' w' c a sz n cap := by
  cases c with
  | no => trivial
  | tight => exact hc
  | tok t =>
    rcases hc with hc | ⟨h0, h1, arr, e, h2, h3⟩
    · exact .inl hc
    obtain ⟨a, h4, h5⟩ := h.shp _ _ _ _ h2
    exact .inr ⟨h0, h.tok _ _ h1, a, e, h4, h5 ▸ h3⟩

mutual
theorem Rep.ext {C C' : Cx} {w w' : World} (h : Ext C w C' w') : ∀ (a : AV) (y : Value), Rep C w a y → Rep C' w' a y
  | .any, _, _ => by simp only [Rep]
  | .v x, y, hr => by simp only [Rep] at hr ⊢; exact hr
  | .agg cs, y, hr => by
    simp only [Rep] at hr ⊢
    obtain ⟨ys, e, hs, ho⟩ := hr
    exact ⟨ys, e, Reps.ext h cs _ hs, ho⟩
  | .tup cs, y, hr => by
    simp only [Rep] at hr ⊢
    obtain ⟨ys, e, hs⟩ := hr
    exact ⟨ys, e, Reps.ext h cs _ hs⟩
  | .sl sz es c, y, hr => by
    simp only [Rep] at hr ⊢
    obtain ⟨a0, cap, e, hn, hsp, hs, hc⟩ := hr
    exact ⟨a0, cap, e, hn, hsp, Elems.ext h a0.block sz es a0.off hs, hc.ext h⟩
  | .own sz id off n, y, hr => by
    simp only [Rep] at hr ⊢
    obtain ⟨bi, cap, e, h1⟩ := hr
    exact ⟨bi, cap, h.blk _ _ e, h1⟩
  | .ref id i off, y, hr => by
    simp only [Rep] at hr ⊢
    obtain ⟨bi, e, h1⟩ := hr
    exact ⟨bi, h.blk _ _ e, h1⟩
  | .eref e, y, hr => by
    simp only [Rep] at hr ⊢
    obtain ⟨b, off, v, h1, h2, h3⟩ := hr
    exact ⟨b, off, v, h1, Rep.ext h e v h2, h3.ext h⟩
  | .fn f fs cs, y, hr => by
    simp only [Rep] at hr ⊢
    obtain ⟨a, b, h1, h2, h3⟩ := hr
    exact ⟨a, b, h1, Reps.ext h fs _ h2, Reps.ext h cs _ h3⟩
  | .ifc t x, y, hr => by
    simp only [Rep] at hr ⊢
    obtain ⟨z, h1, h2⟩ := hr
    exact ⟨z, h1, Rep.ext h x z h2⟩
  | .map id, y, hr => by
    simp only [Rep] at hr ⊢
    obtain ⟨bi, e, h1⟩ := hr
    exact ⟨bi, h.blk _ _ e, h1⟩
  | .yld id, y, hr => by
    simp only [Rep] at hr ⊢
    obtain ⟨bi, e, h1⟩ := hr
    exact ⟨bi, h.blk _ _ e, h1⟩
theorem Reps.ext {C C' : Cx} {w w' : World} (h : Ext C w C' w') : ∀ (as : List AV) (ys : List Value), Reps C w as ys → Reps C' w' as ys
  | [], ys, hr => by simp only [Reps] at hr ⊢; exact hr
  | x :: xs, ys, hr => by
    simp only [Reps] at hr ⊢
    obtain ⟨y, ys', e, h1, h2⟩ := hr
    exact ⟨y, ys', e, Rep.ext h x y h1, Reps.ext h xs ys' h2⟩
theorem Elems.ext {C C' : Cx} {w w' : World} (h : Ext C w C' w') (b sz : Nat) : ∀ (es : List AV) (off : Nat), Elems C w b (C.imm b) sz off es → Elems C' w' b (C'.imm b) sz off es
  | [], _, _ => by simp only [Elems]
  | e :: es, off, hr => by
    simp only [Elems] at hr ⊢
    obtain ⟨⟨v, h1, h2, h3⟩, h4⟩ := hr
    exact ⟨⟨v, Rep.ext h e v h1, h2, h3.ext h⟩, Elems.ext h b sz es (off + sz) h4⟩
end

/-- Elements of a block of one's own, in a later world in which that block's cells read as before. -/
theorem Elems.keep {C C' : Cx} {w w' : World} (h : Ext C w C' w') {b sz : Nat} {p : Nat → Prop} (hb : ∀ o, w'.cell? ⟨b, o, none⟩ = w.cell? ⟨b, o, none⟩) :
    ∀ (es : List AV) (off : Nat), Elems C w b p sz off es → Elems C' w' b p sz off es
  | [], _, _ => by simp only [Elems]
  | e :: es, off, hr => by
    simp only [Elems] at hr ⊢
    obtain ⟨⟨v, h1, h2, h3⟩, h4⟩ := hr
    exact ⟨⟨v, Rep.ext h e v h1, h2, fun j x hx => let ⟨a, c, d⟩ := h3 j x hx; ⟨a, (hb _).trans c, d⟩⟩, Elems.keep h hb es (off + sz) h4⟩

theorem MapRep.ext {C C' : Cx} {w w' : World} (h : Ext C w C' w') {es : List (Value × AV)} {ents : List MapEntry} (hr : MapRep C w es ents) : MapRep C' w' es ents := by
  induction hr with
  | nil => exact .nil
  | cons h1 h2 _ ih => exact .cons h1 (Rep.ext h _ _ h2) ih

theorem cell_heap {w w' : World} {b : Nat} (h : w'.heap[b]? = w.heap[b]?) (o : Nat) : w'.cell? ⟨b, o, none⟩ = w.cell? ⟨b, o, none⟩ := by
  simp only [World.cell?, h]

/-- A block that lies as it lay stands for what it stood for. -/
theorem BlkOk.keep {C C' : Cx} {w w' : World} (h : Ext C w C' w') {id : Nat} {blk : ABlk} (hf : C.blk id = none → C'.blk id = none) (hb : ∀ bi, C.blk id = some bi → w'.heap[bi.b]? = w.heap[bi.b]?) (hr : BlkOk C w id blk) : BlkOk C' w' id blk := by
  cases blk with
  | free => exact hf hr
  | gone => trivial
  | arr es sz =>
    obtain ⟨b, arr, e, h1, h2, h3, h4⟩ := hr
    have hk := hb _ h1
    exact ⟨b, arr, e, h.blk _ _ h1, hk.trans h2, h3, Elems.keep h (cell_heap hk) _ _ h4⟩
  | vec es sz =>
    obtain ⟨b, cnt, arr, e, h1, h2, h3, h4, h4', h5⟩ := hr
    have hk := hb _ h1
    exact ⟨b, cnt, arr, e, h.blk _ _ h1, hk.trans h2, h3, h4, h4', Elems.keep h (cell_heap hk) _ _ h5⟩
  | map es =>
    obtain ⟨bi, ents, clock, h1, h2, h3⟩ := hr
    exact ⟨bi, ents, clock, h.blk _ _ h1, (hb _ h1).trans h2, h3.ext h⟩
  | loop l =>
    obtain ⟨bi, L, h1, h2, h3, h4, h5, h6, h7, h8, h9⟩ := hr
    exact ⟨bi, L, h.blk _ _ h1, (hb _ h1).trans h2, h3, h4, h5, h6, h7, Reps.ext h _ _ h8, h9⟩
  | dfd =>
    obtain ⟨bi, h1, h2⟩ := hr
    exact ⟨bi, h.blk _ _ h1, (hb _ h1).trans h2⟩

/-- Two numbers, neither done with, of one block are one. -/
theorem Sim.same_id {C : Cx} {w : World} {m : AMem} (hS : Sim C w m) {i j : Nat} {bi bj : BI} (hi : C.blk i = some bi) (hj : C.blk j = some bj) (h : bi.b = bj.b) (gi : m.blks[i]? ≠ some .gone) (gj : m.blks[j]? ≠ some .gone) : i = j := by
  rcases Nat.lt_trichotomy i j with hl | hl | hl
  · exact absurd (hS.inj i j bi bj hi hj h hl).1 gi
  · exact hl
  · exact absurd (hS.inj j i bj bi hj hi h.symm hl).1 gj

theorem addr_eta {a : Addr} (h : a.spot = none) : a = ⟨a.block, a.off, none⟩ := by cases a; simp at h; subst h; rfl

/-! ### Lists -/
theorem Reps.length {C : Cx} {w : World} : ∀ {as : List AV} {ys : List Value}, Reps C w as ys → as.length = ys.length
  | [], ys, h => by simp only [Reps] at h; simp [h]
  | a :: as, ys, h => by
    simp only [Reps] at h
    obtain ⟨y, ys', rfl, _, h2⟩ := h
    simp [Reps.length h2]

theorem Reps.get {C : Cx} {w : World} : ∀ {as : List AV} {ys : List Value} {i : Nat} {a : AV}, Reps C w as ys → as[i]? = some a → ∃ y, ys[i]? = some y ∧ Rep C w a y
  | [], _, _, _, _, hi => by simp at hi
  | x :: as, ys, i, a, h, hi => by
    simp only [Reps] at h
    obtain ⟨y, ys', rfl, h1, h2⟩ := h
    cases i with
    | zero => simp at hi; subst hi; exact ⟨y, by simp, h1⟩
    | succ i => simp at hi; obtain ⟨z, hz, hr⟩ := Reps.get h2 hi; exact ⟨z, by simpa using hz, hr⟩

theorem Reps.mk {C : Cx} {w : World} : ∀ {as : List AV} {ys : List Value}, as.length = ys.length → (∀ (i : Nat) (a : AV) (y : Value), as[i]? = some a → ys[i]? = some y → Rep C w a y) → Reps C w as ys
  | [], ys, hl, _ => by simp only [Reps]; cases ys with | nil => rfl | cons _ _ => simp at hl
  | a :: as, [], hl, _ => by simp at hl
  | a :: as, y :: ys, hl, h => by
    simp only [Reps]
    exact ⟨y, ys, rfl, h 0 a y (by simp) (by simp), Reps.mk (by simpa using hl) fun i b z hb hz => h (i + 1) b z (by simpa using hb) (by simpa using hz)⟩

theorem Reps.get' {C : Cx} {w : World} {as : List AV} {ys : List Value} {i : Nat} {a : AV} {y : Value} (h : Reps C w as ys) (ha : as[i]? = some a) (hy : ys[i]? = some y) : Rep C w a y := by
  obtain ⟨z, hz, hr⟩ := h.get ha
  rw [hy] at hz; cases hz; exact hr

theorem Reps.append {C : Cx} {w : World} : ∀ {as bs : List AV} {ys zs : List Value}, Reps C w as ys → Reps C w bs zs → Reps C w (as ++ bs) (ys ++ zs)
  | [], bs, ys, zs, h, k => by simp only [Reps] at h; subst h; simpa using k
  | a :: as, bs, ys, zs, h, k => by
    simp only [Reps] at h
    obtain ⟨y, ys', rfl, h1, h2⟩ := h
    simp only [List.cons_append, Reps]
    exact ⟨y, ys' ++ zs, rfl, h1, Reps.append h2 k⟩

theorem Reps.drop {C : Cx} {w : World} {as : List AV} {ys : List Value} (h : Reps C w as ys) (n : Nat) : Reps C w (as.drop n) (ys.drop n) :=
  Reps.mk (by simp [h.length]) fun i a y ha hy => h.get' (by simpa using ha) (by simpa using hy)

theorem Reps.take {C : Cx} {w : World} {as : List AV} {ys : List Value} (h : Reps C w as ys) (n : Nat) : Reps C w (as.take n) (ys.take n) :=
  Reps.mk (by simp [h.length]) fun i a y ha hy => by
    rw [List.getElem?_take] at ha hy
    split at ha
    · rename_i hlt; rw [if_pos hlt] at hy; exact h.get' ha hy
    · cases ha

theorem Reps.set {C : Cx} {w : World} {as : List AV} {ys : List Value} (h : Reps C w as ys) {a : AV} {y : Value} (n : Nat) (hr : Rep C w a y) : Reps C w (as.set n a) (ys.set n y) :=
  Reps.mk (by simp [h.length]) fun i b z hb hz => by
    rw [List.getElem?_set] at hb hz
    by_cases e : n = i
    · subst e
      simp only [if_true] at hb hz
      split at hb
      · rw [if_pos (by have := h.length; omega)] at hz; cases hb; cases hz; exact hr
      · cases hb
    · simp only [e, if_false] at hb hz; exact h.get' hb hz

theorem Reps.replicate {C : Cx} {w : World} {a : AV} {y : Value} (h : Rep C w a y) (n : Nat) : Reps C w (List.replicate n a) (List.replicate n y) :=
  Reps.mk (by simp) fun i b z hb hz => by
    rw [List.getElem?_replicate] at hb hz
    split at hb
    · rename_i hlt; rw [if_pos hlt] at hz; cases hb; cases hz; exact h
    · cases hb

theorem Reps.v {C : Cx} {w : World} (l : List Value) : Reps C w (l.map .v) l :=
  Reps.mk (by simp) fun i a y ha hy => by
    simp only [List.getElem?_map, hy, Option.map_some, Option.some.injEq] at ha
    subst ha; simp [Rep]

theorem rep_any (C : Cx) (w : World) (y : Value) : Rep C w .any y := by simp [Rep]

theorem rep_ofV (C : Cx) (w : World) (x : Value) : Rep C w (.ofV x) x := by
  cases x with
  | agg cs =>
    simp only [AV.ofV]
    cases h : cs.toList.all Value.oneCell' with
    | true => simp only [cond_true, Rep]; exact ⟨cs, rfl, Reps.v _, List.all_eq_true.1 h⟩
    | false => simp [Rep]
  | _ => simp [AV.ofV, Rep]

/-- The cells of a plain value. -/
theorem rep_cells {C : Cx} {w : World} {a : AV} {y : Value} (hp : a.plain = true) (h : Rep C w a y) : Reps C w a.cells y.cells.toList ∧ ∀ c ∈ y.cells.toList, c.oneCell' = true := by
  cases a with
  | any => simp [AV.plain] at hp
  | tup cs => simp [AV.plain] at hp
  | agg cs =>
    simp only [Rep] at h
    obtain ⟨ys, rfl, h1, h2⟩ := h
    exact ⟨h1, h2⟩
  | v x =>
    simp only [Rep] at h; subst h
    simp only [AV.plain] at hp
    cases y <;> simp_all [AV.cells, Value.cells, Reps, Rep, Value.oneCell']
  | sl sz es c => have h' := h; simp only [Rep] at h; obtain ⟨a0, cap, rfl, _⟩ := h; simp [AV.cells, Value.cells, Reps, h', Value.oneCell']
  | own sz id off n => have h' := h; simp only [Rep] at h; obtain ⟨b, cap, _, _, rfl, _⟩ := h; simp [AV.cells, Value.cells, Reps, h', Value.oneCell']
  | ref id i off => have h' := h; simp only [Rep] at h; obtain ⟨b, _, rfl⟩ := h; simp [AV.cells, Value.cells, Reps, h', Value.oneCell']
  | eref e => have h' := h; simp only [Rep] at h; obtain ⟨b, off, v, rfl, _⟩ := h; simp [AV.cells, Value.cells, Reps, h', Value.oneCell']
  | fn f a b => have h' := h; simp only [Rep] at h; obtain ⟨b, off, rfl, _⟩ := h; simp [AV.cells, Value.cells, Reps, h', Value.oneCell']
  | ifc t x => have h' := h; simp only [Rep] at h; obtain ⟨b, rfl, _⟩ := h; simp [AV.cells, Value.cells, Reps, h', Value.oneCell']
  | map id => have h' := h; simp only [Rep] at h; obtain ⟨b, _, rfl⟩ := h; simp [AV.cells, Value.cells, Reps, h', Value.oneCell']
  | yld id => have h' := h; simp only [Rep] at h; obtain ⟨b, _, rfl⟩ := h; simp [AV.cells, Value.cells, Reps, h', Value.oneCell']

theorem cells_agg (ys : Array Value) : (Value.agg ys).cells = ys := rfl

/-- A plain value that is no aggregate is one cell. -/
theorem rep_single {C : Cx} {w : World} {a : AV} {y : Value} (hp : a.plain = true) (h : Rep C w a y) (ha : ∀ cs, a ≠ .agg cs) : y.cells = #[y] ∧ y.oneCell' = true := by
  have hc : y.oneCell' = true := by
    cases a with
    | any => simp [AV.plain] at hp
    | tup cs => simp [AV.plain] at hp
    | agg cs => exact absurd rfl (ha cs)
    | v x => simp only [Rep] at h; subst h; exact hp
    | sl sz es c => simp only [Rep] at h; obtain ⟨a0, cap, rfl, _⟩ := h; rfl
    | own sz id off n => simp only [Rep] at h; obtain ⟨b, cap, _, _, rfl, _⟩ := h; rfl
    | ref id i off => simp only [Rep] at h; obtain ⟨b, _, rfl⟩ := h; rfl
    | eref e => simp only [Rep] at h; obtain ⟨b, off, v, rfl, _⟩ := h; rfl
    | fn f a b => simp only [Rep] at h; obtain ⟨b, off, rfl, _⟩ := h; rfl
    | ifc t x => simp only [Rep] at h; obtain ⟨b, rfl, _⟩ := h; rfl
    | map id => simp only [Rep] at h; obtain ⟨b, _, rfl⟩ := h; rfl
    | yld id => simp only [Rep] at h; obtain ⟨b, _, rfl⟩ := h; rfl
  refine ⟨?_, hc⟩
  cases y <;> first | rfl | simp [Value.oneCell'] at hc

/-! ### Elements -/
theorem Stored.mono {p q : Nat → Prop} {w : World} {b off : Nat} {vs : List Value} (h : Stored p w b off vs) (hq : ∀ o, p o → q o) : Stored q w b off vs :=
  fun j x hx => let ⟨a, c, d⟩ := h j x hx; ⟨hq _ a, c, d⟩

theorem Elems.get {C : Cx} {w : World} {b sz : Nat} {p : Nat → Prop} : ∀ {es : List AV} {off i : Nat} {e : AV}, Elems C w b p sz off es → es[i]? = some e →
    ∃ v, Rep C w e v ∧ v.cells.size = sz ∧ Stored p w b (off + i * sz) v.cells.toList
  | [], _, _, _, _, hi => by simp at hi
  | x :: es, off, i, e, h, hi => by
    simp only [Elems] at h
    cases i with
    | zero => simp at hi; subst hi; simpa using h.1
    | succ i =>
      simp at hi
      obtain ⟨v, h1, h2, h3⟩ := Elems.get h.2 hi
      refine ⟨v, h1, h2, ?_⟩
      rw [Nat.succ_mul, show off + (i * sz + sz) = off + sz + i * sz by omega]
      exact h3

theorem Elems.mk {C : Cx} {w : World} {b sz : Nat} {p : Nat → Prop} : ∀ {es : List AV} {off : Nat},
    (∀ (i : Nat) (e : AV), es[i]? = some e → ∃ v, Rep C w e v ∧ v.cells.size = sz ∧ Stored p w b (off + i * sz) v.cells.toList) → Elems C w b p sz off es
  | [], _, _ => by simp only [Elems]
  | e :: es, off, h => by
    simp only [Elems]
    refine ⟨by simpa using h 0 e (by simp), Elems.mk fun i x hx => ?_⟩
    obtain ⟨v, h1, h2, h3⟩ := h (i + 1) x (by simpa using hx)
    refine ⟨v, h1, h2, ?_⟩
    rw [Nat.succ_mul, show off + (i * sz + sz) = off + sz + i * sz by omega] at h3
    exact h3

theorem Elems.mono {C : Cx} {w : World} {b sz : Nat} {p q : Nat → Prop} {es : List AV} {off : Nat} (h : Elems C w b p sz off es) (hq : ∀ o, p o → q o) : Elems C w b q sz off es :=
  Elems.mk fun _ _ he => let ⟨v, h1, h2, h3⟩ := h.get he; ⟨v, h1, h2, h3.mono hq⟩

theorem Elems.drop {C : Cx} {w : World} {b sz : Nat} {p : Nat → Prop} {es : List AV} {off : Nat} (h : Elems C w b p sz off es) (n : Nat) : Elems C w b p sz (off + n * sz) (es.drop n) :=
  Elems.mk fun i e he => by
    obtain ⟨v, h1, h2, h3⟩ := h.get (i := n + i) (by simpa using he)
    refine ⟨v, h1, h2, ?_⟩
    rw [Nat.add_mul, ← Nat.add_assoc] at h3; exact h3

theorem Elems.take {C : Cx} {w : World} {b sz : Nat} {p : Nat → Prop} {es : List AV} {off : Nat} (h : Elems C w b p sz off es) (n : Nat) : Elems C w b p sz off (es.take n) :=
  Elems.mk fun i e he => by
    rw [List.getElem?_take] at he
    split at he
    · exact h.get he
    · cases he

theorem Elems.append {C : Cx} {w : World} {b sz : Nat} {p : Nat → Prop} {es fs : List AV} {off : Nat} (h : Elems C w b p sz off es) (k : Elems C w b p sz (off + es.length * sz) fs) : Elems C w b p sz off (es ++ fs) :=
  Elems.mk fun i e he => by
    rw [List.getElem?_append] at he
    split at he
    · exact h.get he
    · rename_i hlt
      obtain ⟨v, h1, h2, h3⟩ := k.get he
      refine ⟨v, h1, h2, ?_⟩
      have : off + es.length * sz + (i - es.length) * sz = off + i * sz := by
        rw [Nat.add_assoc, ← Nat.add_mul]; congr 2; omega
      rwa [this] at h3

end Go.Den
