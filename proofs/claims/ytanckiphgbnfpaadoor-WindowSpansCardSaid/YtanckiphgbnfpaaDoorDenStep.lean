/-
  What one change of the world keeps: a store, a new block, a new immutable block, an append. Conditions: as each statement says.
-/
import Derived.Test.YtanckiphgbnfpaaDoorDenRep
namespace Go.Den

def Mut (C : Cx) (m : AMem) (b : Nat) : Prop :=
  (∃ id bi, C.blk id = some bi ∧ m.ro ≤ id ∧ bi.b = b) ∨ (∃ t fo, t ∈ m.live ∧ C.tok t = some (b, fo))

structure Post (C : Cx) (w : World) (m : AMem) (C' : Cx) (w' : World) (m' : AMem) : Prop where
  ext : Ext C w C' w'
  sim : Sim C' w' m'
  frame : ∀ b, b < w.heap.size → ¬ Mut C m b → w'.heap[b]? = w.heap[b]?
  mu : ∀ b, b < w.heap.size → Mut C' m' b → Mut C m b
  os : w'.os = w.os
  tape : w'.tape = w.tape
  output : w'.output = w.output
  ro : m'.ro = m.ro
  len : m.blks.length ≤ m'.blks.length
  next : m.next ≤ m'.next
  prot : ∀ id, id < m.ro → m'.blks[id]? = m.blks[id]? ∧ C'.blk id = C.blk id
  immnew : ∀ b o, C'.imm b o → C.imm b o ∨ w.heap.size ≤ b ∨ Mut C m b
  blknew : ∀ id bi, C'.blk id = some bi → C.blk id = some bi ∨ w.heap.size ≤ bi.b
  toknew : ∀ t x, C'.tok t = some x → C.tok t = some x ∨ m.next ≤ t

theorem Post.refl {C : Cx} {w : World} {m : AMem} (h : Sim C w m) : Post C w m C w m :=
  ⟨Ext.refl C w, h, fun _ _ _ => rfl, fun _ _ h => h, rfl, rfl, rfl, rfl, Nat.le_refl _, Nat.le_refl _, fun _ _ => ⟨rfl, rfl⟩, fun _ _ h => .inl h, fun _ _ h => .inl h, fun _ _ h => .inl h⟩

theorem Post.trans {C C1 C2 : Cx} {w w1 w2 : World} {m m1 m2 : AMem} (h : Post C w m C1 w1 m1) (k : Post C1 w1 m1 C2 w2 m2) : Post C w m C2 w2 m2 :=
  ⟨h.ext.trans k.ext, k.sim,
   fun b hb hm => (k.frame b (Nat.lt_of_lt_of_le hb h.ext.heap) (fun hm1 => hm (h.mu b hb hm1))).trans (h.frame b hb hm),
   fun b hb hm => h.mu b hb (k.mu b (Nat.lt_of_lt_of_le hb h.ext.heap) hm),
   k.os.trans h.os, k.tape.trans h.tape, k.output.trans h.output, k.ro.trans h.ro, Nat.le_trans h.len k.len, Nat.le_trans h.next k.next,
   fun id hid => ⟨(k.prot id (by rw [h.ro]; exact hid)).1.trans (h.prot id hid).1, (k.prot id (by rw [h.ro]; exact hid)).2.trans (h.prot id hid).2⟩,
   fun b o hi => by
    rcases k.immnew b o hi with hi | hi | hi
    · exact h.immnew b o hi
    · exact .inr (.inl (Nat.le_trans h.ext.heap hi))
    · rcases Nat.lt_or_ge b w.heap.size with hb | hb
      · exact .inr (.inr (h.mu b hb hi))
      · exact .inr (.inl hb),
   fun id bi hi => by
    rcases k.blknew id bi hi with hi | hi
    · exact h.blknew id bi hi
    · exact .inr (Nat.le_trans h.ext.heap hi),
   fun t x hi => by
    rcases k.toknew t x hi with hi | hi
    · exact h.toknew t x hi
    · exact .inr (Nat.le_trans h.next hi)⟩

/-- The world's heap, streams and tape are the same (draws alone). -/
structure SameHeap (w w' : World) : Prop where
  heap : w'.heap = w.heap
  os : w'.os = w.os
  tape : w'.tape = w.tape
  output : w'.output = w.output

theorem cell_same {w w' : World} (h : w'.heap = w.heap) (a : Addr) : w'.cell? a = w.cell? a := by simp only [World.cell?, h]

theorem Ext.same {C : Cx} {w w' : World} (h : w'.heap = w.heap) : Ext C w C w' :=
  ⟨by rw [h]; exact Nat.le_refl _, fun _ _ e => e, fun _ _ e => e, fun _ _ e => ⟨e, cell_same h _⟩, fun b arr e fr hb => ⟨arr, by rw [h]; exact hb, rfl⟩⟩

theorem Sim.same {C : Cx} {w w' : World} {m : AMem} (h : w'.heap = w.heap) (hS : Sim C w m) : Sim C w' m :=
  ⟨hS.dom, by rw [h]; exact hS.lt, fun id b hb => (hS.blk id b hb).keep (Ext.same h) (fun e => e) (fun _ _ => by rw [h]), hS.inj, hS.nimm, by rw [h]; exact hS.immlt, by rw [h]; exact hS.tlt, hS.tok, hS.tinj, hS.nodup, by simpa using hS.rolen⟩

theorem Post.same {C : Cx} {w w' : World} {m : AMem} (h : SameHeap w w') (hS : Sim C w m) : Post C w m C w' m :=
  ⟨Ext.same h.heap, hS.same h.heap, fun _ _ _ => by rw [h.heap], fun _ _ e => e, h.os, h.tape, h.output, rfl, Nat.le_refl _, Nat.le_refl _, fun _ _ => ⟨rfl, rfl⟩, fun _ _ h => .inl h, fun _ _ h => .inl h, fun _ _ h => .inl h⟩

/-- One block, and it alone, has been written anew. -/
structure Wrote (w w' : World) (b : Nat) (o : Obj) : Prop where
  at_ : w'.heap[b]? = some o
  other : ∀ k, k ≠ b → w'.heap[k]? = w.heap[k]?
  size : w'.heap.size = w.heap.size
  os : w'.os = w.os
  tape : w'.tape = w.tape
  output : w'.output = w.output

/-- The old object and the new one are of one shape. -/
def Alike (o o' : Obj) : Prop := ∀ (arr : Array Value) (e : TypeId) (fr : Nat × Nat), o = Obj.cells arr e fr → ∃ arr' : Array Value, o' = Obj.cells arr' e fr ∧ arr'.size = arr.size

theorem Ext.wrote {C : Cx} {w w' : World} {b : Nat} {o o' : Obj} (h : Wrote w w' b o') (ho : w.heap[b]? = some o) (hal : Alike o o') (hi : ∀ off, ¬ C.imm b off) : Ext C w C w' :=
  ⟨by rw [h.size]; exact Nat.le_refl _, fun _ _ e => e, fun _ _ e => e,
   fun k off e => ⟨e, cell_heap (h.other k (fun hk => hi off (hk ▸ e))) off⟩,
   fun k arr e fr hk => by
    by_cases hkb : k = b
    · subst hkb
      rw [ho] at hk; cases hk
      obtain ⟨arr', e1, e2⟩ := hal arr e fr rfl
      exact ⟨arr', e1 ▸ h.at_, e2⟩
    · exact ⟨arr, (h.other k hkb).trans hk, rfl⟩⟩

theorem post_wrote {C : Cx} {w w' : World} {m : AMem} {id : Nat} {bi : BI} {o o' : Obj} {blk' : ABlk} (hS : Sim C w m) (hC : C.blk id = some bi) (hro : m.ro ≤ id)
    (h : Wrote w w' bi.b o') (ho : w.heap[bi.b]? = some o) (hal : Alike o o') (hblk : Ext C w C w' → BlkOk C w' id blk') : Post C w m C w' { m with blks := m.blks.set id blk' } := by
  have hx : Ext C w C w' := Ext.wrote h ho hal (fun off => hS.nimm id bi off hC)
  refine ⟨hx, ?_, ?_, fun _ _ e => e, h.os, h.tape, h.output, rfl, by simp, Nat.le_refl _, fun j hj => ⟨by simp only []; rw [List.getElem?_set_ne (by omega)], rfl⟩, fun _ _ h => .inl h, fun _ _ h => .inl h, fun _ _ h => .inl h⟩
  · refine ⟨by simpa using hS.dom, by rw [h.size]; exact hS.lt, ?_, hS.inj, hS.nimm, by rw [h.size]; exact hS.immlt, by rw [h.size]; exact hS.tlt, hS.tok, hS.tinj, hS.nodup, by simpa using hS.rolen⟩
    intro j b hb
    rw [List.getElem?_set] at hb
    by_cases hj : id = j
    · subst hj
      simp only [if_true] at hb
      split at hb
      · cases hb; exact hblk hx
      · cases hb
    · simp only [hj, if_false] at hb
      refine (hS.blk j b hb).keep hx (fun e => e) fun bj hbj => h.other _ fun e => hj (hS.inj id j bi bj hC hbj e.symm)
  · intro b _ hm
    refine h.other b fun e => hm (.inl ⟨id, bi, hC, hro, e.symm⟩)

/-- One block has come. -/
structure Grew (w w' : World) (o : Obj) : Prop where
  at_ : w'.heap[w.heap.size]? = some o
  other : ∀ k, k < w.heap.size → w'.heap[k]? = w.heap[k]?
  size : w'.heap.size = w.heap.size + 1
  os : w'.os = w.os
  tape : w'.tape = w.tape
  output : w'.output = w.output

theorem grew_alloc (w : World) (o : Obj) : Grew w (w.alloc o) o :=
  ⟨heap_alloc_new w o, fun k hk => heap_alloc_old w o k hk, by simp, rfl, rfl, rfl⟩

theorem Grew.cell {w w' : World} {o : Obj} (h : Grew w w' o) {b : Nat} (hb : b < w.heap.size) (off : Nat) : w'.cell? ⟨b, off, none⟩ = w.cell? ⟨b, off, none⟩ :=
  cell_heap (h.other b hb) off

theorem Ext.grew {C C' : Cx} {w w' : World} {o : Obj} (h : Grew w w' o) (hb : ∀ id bi, C.blk id = some bi → C'.blk id = some bi) (ht : ∀ t x, C.tok t = some x → C'.tok t = some x)
    (hi : ∀ b off, C.imm b off → C'.imm b off) (hlt : ∀ b off, C.imm b off → b < w.heap.size) : Ext C w C' w' :=
  ⟨by rw [h.size]; omega, hb, ht, fun b off e => ⟨hi b off e, h.cell (hlt b off e) off⟩,
   fun b arr e fr hk => ⟨arr, (h.other b (Array.getElem?_eq_some_iff.1 hk).1).trans hk, rfl⟩⟩

def Cx.setBlk (C : Cx) (id : Nat) (bi : BI) : Cx := { C with blk := fun j => if j = id then some bi else C.blk j }

/-- A new block under a reserved number. -/
theorem post_new {C : Cx} {w w' : World} {m : AMem} {id : Nat} {sz cnt : Nat} {o : Obj} {blk' : ABlk} (hS : Sim C w m) (hid : m.blks[id]? = some .free) (hro : m.ro ≤ id)
    (h : Grew w w' o) (hblk : Ext C w (C.setBlk id ⟨w.heap.size, sz, cnt⟩) w' → BlkOk (C.setBlk id ⟨w.heap.size, sz, cnt⟩) w' id blk') :
    Post C w m (C.setBlk id ⟨w.heap.size, sz, cnt⟩) w' { m with blks := m.blks.set id blk' } := by
  have hnone : C.blk id = none := hS.blk id _ hid
  have hx : Ext C w (C.setBlk id ⟨w.heap.size, sz, cnt⟩) w' := by
    refine Ext.grew h (fun j bj e => ?_) (fun _ _ e => e) (fun _ _ e => e) hS.immlt
    have : j ≠ id := fun hj => by rw [hj, hnone] at e; cases e
    simp [Cx.setBlk, this, e]
  have hlen : id < m.blks.length := (List.getElem?_eq_some_iff.1 hid).1
  refine ⟨hx, ?_, fun b hb _ => h.other b hb, ?_, h.os, h.tape, h.output, rfl, by simp, Nat.le_refl _, fun j hj => ⟨by simp only []; rw [List.getElem?_set_ne (by omega)], by simp only [Cx.setBlk]; rw [if_neg (by omega)]⟩, fun _ _ h => .inl h, fun j bj e => by
      simp only [Cx.setBlk] at e
      split at e
      · cases e; exact .inr (Nat.le_refl _)
      · exact .inl e, fun _ _ h => .inl h⟩
  · refine ⟨?_, ?_, ?_, ?_, ?_, ?_, ?_, ?_, hS.tinj, hS.nodup, by simpa using hS.rolen⟩
    · intro j bj e
      simp only [List.length_set]
      simp only [Cx.setBlk] at e
      split at e
      · rename_i hj; omega
      · exact hS.dom j bj e
    · intro j bj e
      rw [h.size]
      simp only [Cx.setBlk] at e
      split at e
      · cases e; simp
      · have := hS.lt j bj e; omega
    · intro j b hb
      rw [List.getElem?_set] at hb
      by_cases hj : id = j
      · subst hj
        simp only [if_true, hlen] at hb
        cases hb; exact hblk hx
      · simp only [hj, if_false] at hb
        refine (hS.blk j b hb).keep hx (fun e => ?_) fun bj hbj => h.other _ (hS.lt j bj hbj)
        simp only [Cx.setBlk]
        rw [if_neg (fun e => hj e.symm)]; exact e
    · intro i j bi bj hi hj hij
      simp only [Cx.setBlk] at hi hj
      split at hi <;> split at hj
      · omega
      · cases hi
        have := hS.lt j bj hj
        simp at hij; omega
      · cases hj
        have := hS.lt i bi hi
        simp at hij; omega
      · exact hS.inj i j bi bj hi hj hij
    · intro j bj off e hi
      simp only [Cx.setBlk] at e hi
      split at e
      · cases e
        have := hS.immlt _ _ hi
        simp at this
      · exact hS.nimm j bj off e hi
    · intro b off e
      have := hS.immlt b off e
      rw [h.size]; omega
    · intro t x e
      have := hS.tlt t x e
      rw [h.size]; exact ⟨this.1, by omega⟩
    · intro t ht
      obtain ⟨b, fo, h1, h2, h3⟩ := hS.tok t ht
      refine ⟨b, fo, h1, h2, fun j bj e => ?_⟩
      simp only [Cx.setBlk] at e
      split at e
      · cases e
        have := (hS.tlt t _ h1).2
        simp at this; simp; omega
      · exact h3 j bj e
  · intro b hb hm
    rcases hm with ⟨j, bj, e, h1, h2⟩ | hm
    · simp only [Cx.setBlk] at e
      split at e
      · cases e; simp at h2; omega
      · exact .inl ⟨j, bj, e, h1, h2⟩
    · exact .inr hm

def Cx.addImm (C : Cx) (p : Nat → Nat → Prop) : Cx := { C with imm := fun b o => C.imm b o ∨ p b o }

/-- A new block that is never written again. -/
theorem post_imm {C : Cx} {w w' : World} {m : AMem} {o : Obj} (hS : Sim C w m) (h : Grew w w' o) : Post C w m (C.addImm fun b _ => b = w.heap.size) w' m := by
  have hx : Ext C w (C.addImm fun b _ => b = w.heap.size) w' := Ext.grew h (fun _ _ e => e) (fun _ _ e => e) (fun _ _ e => .inl e) hS.immlt
  refine ⟨hx, ?_, fun b hb _ => h.other b hb, fun b _ e => e, h.os, h.tape, h.output, rfl, Nat.le_refl _, Nat.le_refl _, fun _ _ => ⟨rfl, rfl⟩, fun b o hi => by
    rcases hi with hi | hi
    · exact .inl hi
    · exact .inr (.inl (by omega)), fun _ _ h => .inl h, fun _ _ h => .inl h⟩
  refine ⟨hS.dom, ?_, ?_, hS.inj, ?_, ?_, ?_, ?_, hS.tinj, hS.nodup, by simpa using hS.rolen⟩
  · intro j bj e; have := hS.lt j bj e; rw [h.size]; omega
  · intro j b hb; exact (hS.blk j b hb).keep hx (fun e => e) fun bj hbj => h.other _ (hS.lt j bj hbj)
  · intro j bj off e hi
    rcases hi with hi | hi
    · exact hS.nimm j bj off e hi
    · have := hS.lt j bj e; omega
  · intro b off e
    rw [h.size]
    rcases e with e | e
    · have := hS.immlt b off e; omega
    · omega
  · intro t x e; have := hS.tlt t x e; rw [h.size]; exact ⟨this.1, by omega⟩
  · intro t ht
    obtain ⟨b, fo, h1, h2, h3⟩ := hS.tok t ht
    refine ⟨b, fo, h1, fun off ho hi => ?_, h3⟩
    rcases hi with hi | hi
    · exact h2 off ho hi
    · have := (hS.tlt t _ h1).2; simp at this; omega

/-- Numbers are reserved. -/
theorem post_reserve {C : Cx} {w : World} {m : AMem} (hS : Sim C w m) (k : Nat) : Post C w m C w { m with blks := m.blks ++ List.replicate k .free } := by
  refine ⟨Ext.refl C w, ⟨fun id bi e => by have := hS.dom id bi e; simp; omega, hS.lt, fun id b hb => ?_, hS.inj, hS.nimm, hS.immlt, hS.tlt, hS.tok, hS.tinj, hS.nodup, by have := hS.rolen; simp; omega⟩, fun _ _ _ => rfl, fun _ _ h => h, rfl, rfl, rfl, rfl, by simp, Nat.le_refl _, fun id hid => ⟨?_, rfl⟩, fun _ _ h => .inl h, fun _ _ h => .inl h, fun _ _ h => .inl h⟩
  · simp only [] at hb
    rw [List.getElem?_append] at hb
    split at hb
    · exact hS.blk id b hb
    · rename_i hge
      rw [List.getElem?_replicate] at hb
      split at hb
      · cases hb
        cases hc : C.blk id with
        | none => exact hc
        | some bi => have := hS.dom id bi hc; omega
      · cases hb
  · have := hS.rolen
    simp only []
    rw [List.getElem?_append_left (by omega)]

end Go.Den
