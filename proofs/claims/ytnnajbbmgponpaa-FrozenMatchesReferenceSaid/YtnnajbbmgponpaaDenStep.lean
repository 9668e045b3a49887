/-
  What one change of the world keeps: a store, a new block, a new immutable block, an append. Conditions: as each statement says.
-/
import Derived.Test.YtnnajbbmgponpaaDenRep
namespace Go.Den

def Mut (C : Cx) (m : AMem) (b : Nat) : Prop :=
  (∃ id bi, C.blk id = some bi ∧ m.ro ≤ id ∧ bi.b = b) ∨ (∃ t fo, t ∈ m.live ∧ C.tok t = some (b, fo))

structure Post (C : Cx) (w : World) (m : AMem) (C' : Cx) (w' : World) (m' : AMem) : Prop where
  ext : Ext C w C' w'
  sim : Sim C' w' m'
  frame : ∀ b, b < w.heap.size → ¬ Mut C m b → w'.heap[b]? = w.heap[b]?
  mu : ∀ b, b < w.heap.size → Mut C' m' b → Mut C m b
  os : w'.os = w.os
  tape : w'.tape = w.tape
  output : w'.output = w.output
  ro : m'.ro = m.ro
  len : m.blks.length ≤ m'.blks.length
  next : m.next ≤ m'.next
  prot : ∀ id, id < m.ro → m'.blks[id]? = m.blks[id]? ∧ C'.blk id = C.blk id
  immnew : ∀ b o, C'.imm b o → C.imm b o ∨ w.heap.size ≤ b ∨ Mut C m b
  blknew : ∀ id bi, C'.blk id = some bi → C.blk id = some bi ∨ w.heap.size ≤ bi.b ∨ Mut C m bi.b
  toknew : ∀ t x, C'.tok t = some x → C.tok t = some x ∨ m.next ≤ t

theorem Post.refl {C : Cx} {w : World} {m : AMem} (h : Sim C w m) : Post C w m C w m :=
  ⟨Ext.refl C w, h, fun _ _ _ => rfl, fun _ _ h => h, rfl, rfl, rfl, rfl, Nat.le_refl _, Nat.le_refl _, fun _ _ => ⟨rfl, rfl⟩, fun _ _ h => .inl h, fun _ _ h => .inl h, fun _ _ h => .inl h⟩

theorem Post.trans {C C1 C2 : Cx} {w w1 w2 : World} {m m1 m2 : AMem} (h : Post C w m C1 w1 m1) (k : Post C1 w1 m1 C2 w2 m2) : Post C w m C2 w2 m2 :=
  ⟨h.ext.trans k.ext, k.sim,
   fun b hb hm => (k.frame b (Nat.lt_of_lt_of_le hb h.ext.heap) (fun hm1 => hm (h.mu b hb hm1))).trans (h.frame b hb hm),
   fun b hb hm => h.mu b hb (k.mu b (Nat.lt_of_lt_of_le hb h.ext.heap) hm),
   k.os.trans h.os, k.tape.trans h.tape, k.output.trans h.output, k.ro.trans h.ro, Nat.le_trans h.len k.len, Nat.le_trans h.next k.next,
   fun id hid => ⟨(k.prot id (by rw [h.ro]; exact hid)).1.trans (h.prot id hid).1, (k.prot id (by rw [h.ro]; exact hid)).2.trans (h.prot id hid).2⟩,
   fun b o hi => by
    rcases k.immnew b o hi with hi | hi | hi
    · exact h.immnew b o hi
    · exact .inr (.inl (Nat.le_trans h.ext.heap hi))
    · rcases Nat.lt_or_ge b w.heap.size with hb | hb
      · exact .inr (.inr (h.mu b hb hi))
      · exact .inr (.inl hb),
   fun id bi hi => by
    rcases k.blknew id bi hi with hi | hi | hi
    · exact h.blknew id bi hi
    · exact .inr (.inl (Nat.le_trans h.ext.heap hi))
    · rcases Nat.lt_or_ge bi.b w.heap.size with hb | hb
      · exact .inr (.inr (h.mu _ hb hi))
      · exact .inr (.inl hb),
   fun t x hi => by
    rcases k.toknew t x hi with hi | hi
    · exact h.toknew t x hi
    · exact .inr (Nat.le_trans h.next hi)⟩

/-- The world's heap, streams and tape are the same (draws alone). -/
structure SameHeap (w w' : World) : Prop where
  heap : w'.heap = w.heap
  os : w'.os = w.os
  tape : w'.tape = w.tape
  output : w'.output = w.output

theorem cell_same {w w' : World} (h : w'.heap = w.heap) (a : Addr) : w'.cell? a = w.cell? a := by simp only [World.cell?, h]

theorem Ext.same {C : Cx} {w w' : World} (h : w'.heap = w.heap) : Ext C w C w' :=
  ⟨by rw [h]; exact Nat.le_refl _, fun _ _ e => e, fun _ _ e => e, fun _ _ e => ⟨e, cell_same h _⟩, fun b arr e fr hb => ⟨arr, by rw [h]; exact hb, rfl⟩⟩

theorem Sim.same {C : Cx} {w w' : World} {m : AMem} (h : w'.heap = w.heap) (hS : Sim C w m) : Sim C w' m :=
  ⟨hS.dom, by rw [h]; exact hS.lt, fun id b hb => (hS.blk id b hb).keep (Ext.same h) (fun e => e) (fun _ _ => by rw [h]), hS.inj, hS.nimm, by rw [h]; exact hS.immlt, by rw [h]; exact hS.tlt, hS.tok, hS.tinj, hS.nodup, by simpa using hS.rolen⟩

theorem Post.same {C : Cx} {w w' : World} {m : AMem} (h : SameHeap w w') (hS : Sim C w m) : Post C w m C w' m :=
  ⟨Ext.same h.heap, hS.same h.heap, fun _ _ _ => by rw [h.heap], fun _ _ e => e, h.os, h.tape, h.output, rfl, Nat.le_refl _, Nat.le_refl _, fun _ _ => ⟨rfl, rfl⟩, fun _ _ h => .inl h, fun _ _ h => .inl h, fun _ _ h => .inl h⟩

/-- One block, and it alone, has been written anew. -/
structure Wrote (w w' : World) (b : Nat) (o : Obj) : Prop where
  at_ : w'.heap[b]? = some o
  other : ∀ k, k ≠ b → w'.heap[k]? = w.heap[k]?
  size : w'.heap.size = w.heap.size
  os : w'.os = w.os
  tape : w'.tape = w.tape
  output : w'.output = w.output

/-- The old object and the new one are of one shape. -/
def Alike (o o' : Obj) : Prop := ∀ (arr : Array Value) (e : TypeId) (fr : Nat × Nat), o = Obj.cells arr e fr → ∃ arr' : Array Value, o' = Obj.cells arr' e fr ∧ arr'.size = arr.size

theorem Ext.wrote {C : Cx} {w w' : World} {b : Nat} {o o' : Obj} (h : Wrote w w' b o') (ho : w.heap[b]? = some o) (hal : Alike o o') (hi : ∀ off, ¬ C.imm b off) : Ext C w C w' :=
  ⟨by rw [h.size]; exact Nat.le_refl _, fun _ _ e => e, fun _ _ e => e,
   fun k off e => ⟨e, cell_heap (h.other k (fun hk => hi off (hk ▸ e))) off⟩,
   fun k arr e fr hk => by
    by_cases hkb : k = b
    · subst hkb
      rw [ho] at hk; cases hk
      obtain ⟨arr', e1, e2⟩ := hal arr e fr rfl
      exact ⟨arr', e1 ▸ h.at_, e2⟩
    · exact ⟨arr, (h.other k hkb).trans hk, rfl⟩⟩

theorem post_wrote {C : Cx} {w w' : World} {m : AMem} {id : Nat} {bi : BI} {o o' : Obj} {blk0 blk' : ABlk} (hS : Sim C w m) (hC : C.blk id = some bi) (hb0 : m.blks[id]? = some blk0) (hng : blk0 ≠ .gone) (hro : m.ro ≤ id)
    (h : Wrote w w' bi.b o') (ho : w.heap[bi.b]? = some o) (hal : Alike o o') (hblk : Ext C w C w' → BlkOk C w' id blk') : Post C w m C w' { m with blks := m.blks.set id blk' } := by
  have hgi : m.blks[id]? ≠ some .gone := by rw [hb0]; simpa using hng
  have hx : Ext C w C w' := Ext.wrote h ho hal (fun off => hS.nimm id bi off hC hgi)
  have hgone : ∀ j : Nat, m.blks[j]? = some ABlk.gone → (m.blks.set id blk')[j]? = some ABlk.gone := by
    intro j hj
    rw [List.getElem?_set_ne (by rintro rfl; exact hgi hj)]; exact hj
  have hgone' : ∀ j : Nat, (m.blks.set id blk')[j]? ≠ some ABlk.gone → m.blks[j]? ≠ some ABlk.gone := fun j hj h => hj (hgone j h)
  refine ⟨hx, ?_, ?_, fun _ _ e => e, h.os, h.tape, h.output, rfl, by simp, Nat.le_refl _, fun j hj => ⟨by simp only []; rw [List.getElem?_set_ne (by omega)], rfl⟩, fun _ _ h => .inl h, fun _ _ h => .inl h, fun _ _ h => .inl h⟩
  · refine ⟨by simpa using hS.dom, by rw [h.size]; exact hS.lt, ?_, fun i j bi bj hi hj e hl => ⟨hgone i (hS.inj i j bi bj hi hj e hl).1, (hS.inj i j bi bj hi hj e hl).2⟩, fun i bi o hi hg => hS.nimm i bi o hi (hgone' i hg), by rw [h.size]; exact hS.immlt, by rw [h.size]; exact hS.tlt, hS.tok, hS.tinj, hS.nodup, by simpa using hS.rolen⟩
    intro j b hb
    rw [List.getElem?_set] at hb
    by_cases hj : id = j
    · subst hj
      simp only [if_true] at hb
      split at hb
      · cases hb; exact hblk hx
      · cases hb
    · simp only [hj, if_false] at hb
      by_cases hbg : b = .gone
      · subst hbg; trivial
      refine (hS.blk j b hb).keep hx (fun e => e) fun bj hbj => h.other _ fun e => hj (hS.same_id hC hbj e.symm hgi (by rw [hb]; simpa using hbg))
  · intro b _ hm
    refine h.other b fun e => hm (.inl ⟨id, bi, hC, hro, e.symm⟩)

/-- One block has come. -/
structure Grew (w w' : World) (o : Obj) : Prop where
  at_ : w'.heap[w.heap.size]? = some o
  other : ∀ k, k < w.heap.size → w'.heap[k]? = w.heap[k]?
  size : w'.heap.size = w.heap.size + 1
  os : w'.os = w.os
  tape : w'.tape = w.tape
  output : w'.output = w.output

theorem grew_alloc (w : World) (o : Obj) : Grew w (w.alloc o) o :=
  ⟨heap_alloc_new w o, fun k hk => heap_alloc_old w o k hk, by simp, rfl, rfl, rfl⟩

theorem Grew.cell {w w' : World} {o : Obj} (h : Grew w w' o) {b : Nat} (hb : b < w.heap.size) (off : Nat) : w'.cell? ⟨b, off, none⟩ = w.cell? ⟨b, off, none⟩ :=
  cell_heap (h.other b hb) off

theorem Ext.grew {C C' : Cx} {w w' : World} {o : Obj} (h : Grew w w' o) (hb : ∀ id bi, C.blk id = some bi → C'.blk id = some bi) (ht : ∀ t x, C.tok t = some x → C'.tok t = some x)
    (hi : ∀ b off, C.imm b off → C'.imm b off) (hlt : ∀ b off, C.imm b off → b < w.heap.size) : Ext C w C' w' :=
  ⟨by rw [h.size]; omega, hb, ht, fun b off e => ⟨hi b off e, h.cell (hlt b off e) off⟩,
   fun b arr e fr hk => ⟨arr, (h.other b (Array.getElem?_eq_some_iff.1 hk).1).trans hk, rfl⟩⟩

def Cx.setBlk (C : Cx) (id : Nat) (bi : BI) : Cx := { C with blk := fun j => if j = id then some bi else C.blk j }

/-- A new block under a reserved number. -/
theorem post_new {C : Cx} {w w' : World} {m : AMem} {id : Nat} {sz cnt : Nat} {o : Obj} {blk' : ABlk} (hS : Sim C w m) (hid : m.blks[id]? = some .free) (hro : m.ro ≤ id)
    (h : Grew w w' o) (hblk : Ext C w (C.setBlk id ⟨w.heap.size, sz, cnt⟩) w' → BlkOk (C.setBlk id ⟨w.heap.size, sz, cnt⟩) w' id blk') :
    Post C w m (C.setBlk id ⟨w.heap.size, sz, cnt⟩) w' { m with blks := m.blks.set id blk' } := by
  have hnone : C.blk id = none := hS.blk id _ hid
  have hx : Ext C w (C.setBlk id ⟨w.heap.size, sz, cnt⟩) w' := by
    refine Ext.grew h (fun j bj e => ?_) (fun _ _ e => e) (fun _ _ e => e) hS.immlt
    have : j ≠ id := fun hj => by rw [hj, hnone] at e; cases e
    simp [Cx.setBlk, this, e]
  have hlen : id < m.blks.length := (List.getElem?_eq_some_iff.1 hid).1
  refine ⟨hx, ?_, fun b hb _ => h.other b hb, ?_, h.os, h.tape, h.output, rfl, by simp, Nat.le_refl _, fun j hj => ⟨by simp only []; rw [List.getElem?_set_ne (by omega)], by simp only [Cx.setBlk]; rw [if_neg (by omega)]⟩, fun _ _ h => .inl h, fun j bj e => by
      simp only [Cx.setBlk] at e
      split at e
      · cases e; exact .inr (.inl (Nat.le_refl _))
      · exact .inl e, fun _ _ h => .inl h⟩
  · refine ⟨?_, ?_, ?_, ?_, ?_, ?_, ?_, ?_, hS.tinj, hS.nodup, by simpa using hS.rolen⟩
    · intro j bj e
      simp only [List.length_set]
      simp only [Cx.setBlk] at e
      split at e
      · rename_i hj; omega
      · exact hS.dom j bj e
    · intro j bj e
      rw [h.size]
      simp only [Cx.setBlk] at e
      split at e
      · cases e; simp
      · have := hS.lt j bj e; omega
    · intro j b hb
      rw [List.getElem?_set] at hb
      by_cases hj : id = j
      · subst hj
        simp only [if_true, hlen] at hb
        cases hb; exact hblk hx
      · simp only [hj, if_false] at hb
        refine (hS.blk j b hb).keep hx (fun e => ?_) fun bj hbj => h.other _ (hS.lt j bj hbj)
        simp only [Cx.setBlk]
        rw [if_neg (fun e => hj e.symm)]; exact e
    · intro i j bi bj hi hj hij hl
      simp only [Cx.setBlk] at hi hj
      split at hi <;> split at hj
      · omega
      · cases hi
        have := hS.lt j bj hj
        simp at hij; omega
      · cases hj
        have := hS.lt i bi hi
        simp at hij; omega
      · rename_i n1 n2
        have := hS.inj i j bi bj hi hj hij hl
        refine ⟨?_, this.2⟩
        rw [List.getElem?_set_ne (fun e => n1 e.symm)]; exact this.1
    · intro j bj off e hg hi
      simp only [Cx.setBlk] at e hi
      split at e
      · cases e
        have := hS.immlt _ _ hi
        simp at this
      · rename_i n1
        rw [List.getElem?_set_ne (fun e => n1 e.symm)] at hg
        exact hS.nimm j bj off e hg hi
    · intro b off e
      have := hS.immlt b off e
      rw [h.size]; omega
    · intro t x e
      have := hS.tlt t x e
      rw [h.size]; exact ⟨this.1, by omega⟩
    · intro t ht
      obtain ⟨b, fo, h1, h2, h3⟩ := hS.tok t ht
      refine ⟨b, fo, h1, h2, fun j bj e => ?_⟩
      simp only [Cx.setBlk] at e
      split at e
      · cases e
        have := (hS.tlt t _ h1).2
        simp at this; simp; omega
      · exact h3 j bj e
  · intro b hb hm
    rcases hm with ⟨j, bj, e, h1, h2⟩ | hm
    · simp only [Cx.setBlk] at e
      split at e
      · cases e; simp at h2; omega
      · exact .inl ⟨j, bj, e, h1, h2⟩
    · exact .inr hm

def Cx.addImm (C : Cx) (p : Nat → Nat → Prop) : Cx := { C with imm := fun b o => C.imm b o ∨ p b o }

/-- A new block that is never written again. -/
theorem post_imm {C : Cx} {w w' : World} {m : AMem} {o : Obj} (hS : Sim C w m) (h : Grew w w' o) : Post C w m (C.addImm fun b _ => b = w.heap.size) w' m := by
  have hx : Ext C w (C.addImm fun b _ => b = w.heap.size) w' := Ext.grew h (fun _ _ e => e) (fun _ _ e => e) (fun _ _ e => .inl e) hS.immlt
  refine ⟨hx, ?_, fun b hb _ => h.other b hb, fun b _ e => e, h.os, h.tape, h.output, rfl, Nat.le_refl _, Nat.le_refl _, fun _ _ => ⟨rfl, rfl⟩, fun b o hi => by
    rcases hi with hi | hi
    · exact .inl hi
    · exact .inr (.inl (by omega)), fun _ _ h => .inl h, fun _ _ h => .inl h⟩
  refine ⟨hS.dom, ?_, ?_, hS.inj, ?_, ?_, ?_, ?_, hS.tinj, hS.nodup, by simpa using hS.rolen⟩
  · intro j bj e; have := hS.lt j bj e; rw [h.size]; omega
  · intro j b hb; exact (hS.blk j b hb).keep hx (fun e => e) fun bj hbj => h.other _ (hS.lt j bj hbj)
  · intro j bj off e hg hi
    rcases hi with hi | hi
    · exact hS.nimm j bj off e hg hi
    · have := hS.lt j bj e; omega
  · intro b off e
    rw [h.size]
    rcases e with e | e
    · have := hS.immlt b off e; omega
    · omega
  · intro t x e; have := hS.tlt t x e; rw [h.size]; exact ⟨this.1, by omega⟩
  · intro t ht
    obtain ⟨b, fo, h1, h2, h3⟩ := hS.tok t ht
    refine ⟨b, fo, h1, fun off ho hi => ?_, h3⟩
    rcases hi with hi | hi
    · exact h2 off ho hi
    · have := (hS.tlt t _ h1).2; simp at this; omega

/-- Numbers are reserved. -/
theorem post_reserve {C : Cx} {w : World} {m : AMem} (hS : Sim C w m) (k : Nat) : Post C w m C w { m with blks := m.blks ++ List.replicate k .free } := by
  refine ⟨Ext.refl C w, ⟨fun id bi e => by have := hS.dom id bi e; simp; omega, hS.lt, fun id b hb => ?_, fun i j bi bj hi hj e hl => ⟨by rw [List.getElem?_append_left (hS.dom i bi hi)]; exact (hS.inj i j bi bj hi hj e hl).1, (hS.inj i j bi bj hi hj e hl).2⟩, fun id bi o hi hg => hS.nimm id bi o hi (by rw [List.getElem?_append_left (hS.dom id bi hi)] at hg; exact hg), hS.immlt, hS.tlt, hS.tok, hS.tinj, hS.nodup, by have := hS.rolen; simp; omega⟩, fun _ _ _ => rfl, fun _ _ h => h, rfl, rfl, rfl, rfl, by simp, Nat.le_refl _, fun id hid => ⟨?_, rfl⟩, fun _ _ h => .inl h, fun _ _ h => .inl h, fun _ _ h => .inl h⟩
  · simp only [] at hb
    rw [List.getElem?_append] at hb
    split at hb
    · exact hS.blk id b hb
    · rename_i hge
      rw [List.getElem?_replicate] at hb
      split at hb
      · cases hb
        cases hc : C.blk id with
        | none => exact hc
        | some bi => have := hS.dom id bi hc; omega
      · cases hb
  · have := hS.rolen
    simp only []
    rw [List.getElem?_append_left (by omega)]

/-- A block is done with. -/
theorem post_gone {C : Cx} {w : World} {m : AMem} {id : Nat} (hS : Sim C w m) (hro : m.ro ≤ id) (hlt : id < m.blks.length) : Post C w m C w { m with blks := m.blks.set id .gone } := by
  have hgone : ∀ j : Nat, m.blks[j]? = some ABlk.gone → (m.blks.set id ABlk.gone)[j]? = some ABlk.gone := by
    intro j hj
    by_cases h : id = j
    · subst h; rw [List.getElem?_set_self hlt]
    · rw [List.getElem?_set_ne h]; exact hj
  have hgone' : ∀ j : Nat, (m.blks.set id ABlk.gone)[j]? ≠ some ABlk.gone → m.blks[j]? ≠ some ABlk.gone := fun j hj h => hj (hgone j h)
  refine ⟨Ext.refl C w, ⟨by simpa using hS.dom, hS.lt, ?_, fun i j bi bj hi hj e hl => ⟨hgone i (hS.inj i j bi bj hi hj e hl).1, (hS.inj i j bi bj hi hj e hl).2⟩, fun i bi o hi hg => hS.nimm i bi o hi (hgone' i hg), hS.immlt, hS.tlt, hS.tok, hS.tinj, hS.nodup, by simpa using hS.rolen⟩,
    fun _ _ _ => rfl, fun _ _ e => e, rfl, rfl, rfl, rfl, by simp, Nat.le_refl _, fun j hj => ⟨by simp only []; rw [List.getElem?_set_ne (by omega)], rfl⟩, fun _ _ h => .inl h, fun _ _ h => .inl h, fun _ _ h => .inl h⟩
  intro j b hb
  rw [List.getElem?_set] at hb
  by_cases hj : id = j
  · subst hj
    simp only [if_true, hlt] at hb
    cases hb; trivial
  · simp only [hj, if_false] at hb
    exact hS.blk j b hb

theorem set_append_one' (l : List ABlk) (b x : ABlk) : (l ++ [b]).set l.length x = l ++ [x] := by simp

/-- A new block behind all others. -/
theorem post_push {C : Cx} {w w' : World} {m : AMem} {sz cnt : Nat} {o : Obj} {blk' : ABlk} (hS : Sim C w m)
    (h : Grew w w' o) (hblk : Ext C w (C.setBlk m.blks.length ⟨w.heap.size, sz, cnt⟩) w' → BlkOk (C.setBlk m.blks.length ⟨w.heap.size, sz, cnt⟩) w' m.blks.length blk') :
    Post C w m (C.setBlk m.blks.length ⟨w.heap.size, sz, cnt⟩) w' { m with blks := m.blks ++ [blk'] } := by
  have h1 := post_reserve hS 1
  have h2 := post_new (id := m.blks.length) (sz := sz) (cnt := cnt) (blk' := blk') h1.sim (by simp) hS.rolen h hblk
  have := h1.trans h2
  simpa [set_append_one'] using this

/-- A block is written, and goes on under a new number. -/
theorem post_moved {C : Cx} {w w' : World} {m : AMem} {id : Nat} {bi : BI} {o o' : Obj} {blk0 blk' : ABlk} (hS : Sim C w m) (hC : C.blk id = some bi) (hb0 : m.blks[id]? = some blk0) (hng : blk0 ≠ .gone) (hro : m.ro ≤ id)
    (h : Wrote w w' bi.b o') (ho : w.heap[bi.b]? = some o) (hal : Alike o o') (hblk : Ext C w (C.setBlk m.blks.length bi) w' → BlkOk (C.setBlk m.blks.length bi) w' m.blks.length blk') :
    Post C w m (C.setBlk m.blks.length bi) w' { m with blks := m.blks.set id .gone ++ [blk'] } := by
  have hlt : id < m.blks.length := (List.getElem?_eq_some_iff.1 hb0).1
  have hgi : m.blks[id]? ≠ some .gone := by rw [hb0]; simpa using hng
  have hx0 : Ext C w C w' := Ext.wrote h ho hal (fun off => hS.nimm id bi off hC hgi)
  have hfree : C.blk m.blks.length = none := by
    cases hc : C.blk m.blks.length with
    | none => rfl
    | some b => have := hS.dom _ _ hc; omega
  have hx : Ext C w (C.setBlk m.blks.length bi) w' := by
    refine ⟨hx0.heap, fun j bj e => ?_, hx0.tok, hx0.imm, hx0.shp⟩
    have : j ≠ m.blks.length := fun hj => by rw [hj, hfree] at e; cases e
    simp [Cx.setBlk, this, e]
  have hset : ∀ j bj, (C.setBlk m.blks.length bi).blk j = some bj → (j = m.blks.length ∧ bj = bi) ∨ (j < m.blks.length ∧ C.blk j = some bj) := by
    intro j bj e
    simp only [Cx.setBlk] at e
    split at e
    · rename_i hj; cases e; exact .inl ⟨hj, rfl⟩
    · exact .inr ⟨hS.dom _ _ e, e⟩
  have hget : ∀ j, j < m.blks.length → (m.blks.set id ABlk.gone ++ [blk'])[j]? = if id = j then some ABlk.gone else m.blks[j]? := by
    intro j hj
    rw [List.getElem?_append_left (by simpa using hj), List.getElem?_set]
    split
    · rename_i e; subst e; simp [hj]
    · rfl
  have hgone : ∀ j, j < m.blks.length → m.blks[j]? = some ABlk.gone → (m.blks.set id ABlk.gone ++ [blk'])[j]? = some ABlk.gone := by
    intro j hl hj
    rw [hget j hl]; split
    · rfl
    · exact hj
  have hrl := hS.rolen
  refine ⟨hx, ?_, ?_, ?_, h.os, h.tape, h.output, rfl, by simp, Nat.le_refl _, fun j hj => ⟨?_, ?_⟩, fun _ _ h => .inl h, fun j bj e => ?_, fun _ _ h => .inl h⟩
  · refine ⟨?_, ?_, ?_, ?_, ?_, ?_, ?_, ?_, hS.tinj, hS.nodup, by simp; omega⟩
    · intro j bj e
      rcases hset j bj e with ⟨h1, _⟩ | ⟨h1, _⟩ <;> simp <;> omega
    · intro j bj e
      rw [h.size]
      rcases hset j bj e with ⟨_, rfl⟩ | ⟨_, h1⟩
      · exact hS.lt _ _ hC
      · exact hS.lt _ _ h1
    · intro j b hb
      rcases Nat.lt_trichotomy j m.blks.length with hj | hj | hj
      · simp only [] at hb
        rw [hget j hj] at hb
        split at hb
        · cases hb; trivial
        · rename_i hne
          by_cases hbg : b = .gone
          · subst hbg; trivial
          refine (hS.blk j b hb).keep hx (fun e => ?_) fun bj hbj => h.other _ fun e => hne (hS.same_id hC hbj e.symm hgi (by rw [hb]; simpa using hbg))
          simp only [Cx.setBlk]
          rw [if_neg (by omega)]; exact e
      · subst hj
        simp only [] at hb
        rw [List.getElem?_append_right (by simp)] at hb
        simp at hb
        subst hb
        exact hblk hx
      · simp only [] at hb
        rw [List.getElem?_eq_none (by simp; omega)] at hb
        cases hb
    · intro i j b1 b2 hi hj e hl
      rcases hset i b1 hi with ⟨h1, h1'⟩ | ⟨h1, h1'⟩ <;> rcases hset j b2 hj with ⟨h2, h2'⟩ | ⟨h2, h2'⟩
      · omega
      · omega
      · subst h2 h2'
        simp only []
        by_cases hid : i = id
        · subst hid
          refine ⟨by rw [hget i h1, if_pos rfl], ?_⟩
          constructor <;> intro h <;> omega
        · have key : m.blks[i]? = some .gone ∧ (i < m.ro ↔ id < m.ro) := by
            rcases Nat.lt_or_gt_of_ne hid with hlt' | hlt'
            · exact hS.inj i id b1 b2 h1' hC e hlt'
            · exact absurd (hS.inj id i b2 b1 hC h1' e.symm hlt').1 hgi
          refine ⟨hgone i h1 key.1, ?_⟩
          have := key.2
          omega
      · have := hS.inj i j b1 b2 h1' h2' e hl
        exact ⟨hgone i h1 this.1, this.2⟩
    · intro j bj o e hg hi
      rcases hset j bj e with ⟨_, rfl⟩ | ⟨h1, h2⟩
      · exact hS.nimm id bj o hC hgi hi
      · exact hS.nimm j bj o h2 (fun h => hg (hgone j h1 h)) hi
    · intro b o hi; rw [h.size]; exact hS.immlt b o hi
    · intro t x e; rw [h.size]; exact hS.tlt t x e
    · intro t ht
      obtain ⟨b, fo, h1, h2, h3⟩ := hS.tok t ht
      refine ⟨b, fo, h1, h2, fun j bj e => ?_⟩
      rcases hset j bj e with ⟨_, rfl⟩ | ⟨_, h4⟩
      · exact h3 id bj hC
      · exact h3 j bj h4
  · intro b _ hm
    exact h.other b fun e => hm (.inl ⟨id, bi, hC, hro, e.symm⟩)
  · intro b hb hm
    rcases hm with ⟨j, bj, e, h1, h2⟩ | hm
    · rcases hset j bj e with ⟨_, rfl⟩ | ⟨_, h3⟩
      · exact .inl ⟨id, bj, hC, hro, h2⟩
      · exact .inl ⟨j, bj, h3, h1, h2⟩
    · exact .inr hm
  · simp only []
    rw [List.getElem?_append_left (by simp; omega), List.getElem?_set_ne (by omega)]
  · simp only [Cx.setBlk]; rw [if_neg (by omega)]
  · rcases hset j bj e with ⟨_, rfl⟩ | ⟨_, h1⟩
    · exact .inr (.inr (.inl ⟨id, bj, hC, hro, rfl⟩))
    · exact .inl h1

end Go.Den
