/-
  A call hands back: what the callee made is forgotten, and what it hands back of it is never written again. Conditions: as each statement says.
-/
import Derived.Test.YtnnajbbmgponpaaDenStep
namespace Go.Den

/-- The blocks from n on are let go: what lies in them is never written again. -/
structure Lets (C C' : Cx) (n nx : Nat) : Prop where
  blk : ∀ id bi, id < n → C.blk id = some bi → C'.blk id = some bi
  tok : ∀ t x, t < nx → C.tok t = some x → C'.tok t = some x
  imm : ∀ b o, C.imm b o → C'.imm b o
  new : ∀ id bi o, n ≤ id → C.blk id = some bi → C'.imm bi.b o

theorem Stored.lets {C C' : Cx} {w : World} {b off : Nat} {vs : List Value} (hi : ∀ o, C.imm b o → C'.imm b o) (h : Stored (C.imm b) w b off vs) : Stored (C'.imm b) w b off vs :=
  h.mono hi

theorem convs_length {m : AMem} {n nx : Nat} {look : AV → AV} : ∀ (l : List AV), (convs m n nx look l).length = l.length
  | [] => rfl
  | x :: xs => by simp [convs, convs_length xs]

mutual
theorem conv1_ok {C C' : Cx} {w : World} {m : AMem} {n nx : Nat} {look : AV → AV} (hS : Sim C w m) (hL : Lets C C' n nx) (hlook : ∀ a y, Rep C w a y → Rep C' w (look a) y) :
    ∀ (a : AV) (y : Value), Rep C w a y → Rep C' w (conv1 m n nx look a) y
  | .any, _, _ => by simp [conv1, Rep]
  | .v x, y, h => by simpa [conv1, Rep] using h
  | .agg cs, y, h => by
    simp only [Rep] at h
    obtain ⟨ys, e, hs, ho⟩ := h
    simp only [conv1, Rep]
    exact ⟨ys, e, convs_ok hS hL hlook cs _ hs, ho⟩
  | .tup cs, y, h => by
    simp only [Rep] at h
    obtain ⟨ys, e, hs⟩ := h
    simp only [conv1, Rep]
    exact ⟨ys, e, convs_ok hS hL hlook cs _ hs⟩
  | .sl sz es c, y, h => by
    simp only [Rep] at h
    obtain ⟨a0, cap, e, hn, hsp, hs, hc⟩ := h
    simp only [conv1, Rep]
    refine ⟨a0, cap, by rw [convs_length]; exact e, by rw [convs_length]; exact hn, hsp.imp id (fun h => by subst h; rfl), celems_ok hS hL hlook a0.block sz es a0.off hs, ?_⟩
    rw [convs_length]
    cases c with
    | no => trivial
    | tight => exact hc
    | tok t =>
      by_cases ht : t < nx
      · simp only [ht, if_true]
        rcases hc with hc | ⟨h0, h1, h2⟩
        · exact .inl hc
        · exact .inr ⟨h0, hL.tok _ _ ht h1, h2⟩
      · simp only [ht, if_false]; trivial
  | .own z id off k, y, h => by
    have h' := h
    simp only [Rep] at h
    obtain ⟨bi, cap, hC, hz, e, hle, hcnt⟩ := h
    simp only [conv1]
    split
    · rename_i hlt
      simp only [Rep]
      exact ⟨bi, cap, hL.blk _ _ hlt hC, hz, e, hle, hcnt⟩
    · rename_i hge
      split
      · rename_i es sz hb
        obtain ⟨b, arr, e0, g1, g2, g3, g4⟩ := hS.blk id _ hb
        rw [hC] at g1; cases g1
        simp only at hz e hcnt
        split
        · rename_i hok
          simp only [Rep]
          have hlen : ((es.drop off).take k).length = k := by simp; omega
          refine ⟨⟨b, off * sz, none⟩, cap, by rw [List.length_map, hlen]; exact e, by rw [List.length_map, hlen]; exact hle, .inl rfl, ?_, ?_⟩
          · have hsub := (g4.drop off).take k
            rw [Nat.zero_add] at hsub
            refine Elems.mk fun i x hx => ?_
            rw [List.getElem?_map, Option.map_eq_some_iff] at hx
            obtain ⟨x0, hx0, rfl⟩ := hx
            obtain ⟨v, h1, h2, h3⟩ := hsub.get hx0
            exact ⟨v, hlook _ _ h1, h2, fun j z hj => let ⟨_, b1, c1⟩ := h3 j z hj; ⟨hL.new _ _ _ (by omega) hC, b1, c1⟩⟩
          · rw [List.length_map, hlen]
            by_cases ht : (decide (off = 0) && decide (k = es.length)) = true
            · rw [if_pos ht]
              simp at ht
              show cap = k
              omega
            · rw [if_neg ht]; trivial
        · simp [Rep]
      · rename_i es sz hb
        obtain ⟨b, cnt, arr, e0, g1, g2, g3, g3', g3'', g4⟩ := hS.blk id _ hb
        rw [hC] at g1; cases g1
        simp only at hz e hcnt
        split
        · rename_i hok
          simp only [Rep]
          have hlen : ((es.drop off).take k).length = k := by simp; omega
          refine ⟨⟨b, off * sz, none⟩, cap, by rw [List.length_map, hlen]; exact e, by rw [List.length_map, hlen]; exact hle, .inl rfl, ?_, trivial⟩
          have hsub := (g4.drop off).take k
          rw [Nat.zero_add] at hsub
          refine Elems.mk fun i x hx => ?_
          rw [List.getElem?_map, Option.map_eq_some_iff] at hx
          obtain ⟨x0, hx0, rfl⟩ := hx
          obtain ⟨v, h1, h2, h3⟩ := hsub.get hx0
          exact ⟨v, hlook _ _ h1, h2, fun j z hj => let ⟨_, b1, c1⟩ := h3 j z hj; ⟨hL.new _ _ _ (by omega) hC, b1, c1⟩⟩
        · simp [Rep]
      · simp [Rep]
  | .ref id i off, y, h => by
    simp only [Rep] at h
    obtain ⟨bi, hC, e⟩ := h
    simp only [conv1]
    split
    · rename_i hlt; simp only [Rep]; exact ⟨bi, hL.blk _ _ hlt hC, e⟩
    · simp [Rep]
  | .eref e, y, h => by
    simp only [Rep] at h
    obtain ⟨b, off, v, h1, h2, h3⟩ := h
    simp only [conv1, Rep]
    exact ⟨b, off, v, h1, conv1_ok hS hL hlook e v h2, h3.mono (hL.imm b)⟩
  | .fn f fs cs, y, h => by
    simp only [Rep] at h
    obtain ⟨a, b, h1, h2, h3⟩ := h
    simp only [conv1, Rep]
    exact ⟨a, b, h1, convs_ok hS hL hlook fs _ h2, convs_ok hS hL hlook cs _ h3⟩
  | .ifc t x, y, h => by
    simp only [Rep] at h
    obtain ⟨z, h1, h2⟩ := h
    simp only [conv1, Rep]
    exact ⟨z, h1, conv1_ok hS hL hlook x z h2⟩
  | .map id, y, h => by
    simp only [Rep] at h
    obtain ⟨bi, hC, e⟩ := h
    simp only [conv1]
    split
    · rename_i hlt; simp only [Rep]; exact ⟨bi, hL.blk _ _ hlt hC, e⟩
    · simp [Rep]
  | .yld id, y, h => by
    simp only [Rep] at h
    obtain ⟨bi, hC, e⟩ := h
    simp only [conv1]
    split
    · rename_i hlt; simp only [Rep]; exact ⟨bi, hL.blk _ _ hlt hC, e⟩
    · simp [Rep]
theorem convs_ok {C C' : Cx} {w : World} {m : AMem} {n nx : Nat} {look : AV → AV} (hS : Sim C w m) (hL : Lets C C' n nx) (hlook : ∀ a y, Rep C w a y → Rep C' w (look a) y) :
    ∀ (as : List AV) (ys : List Value), Reps C w as ys → Reps C' w (convs m n nx look as) ys
  | [], ys, h => by simpa [convs, Reps] using h
  | x :: xs, ys, h => by
    simp only [Reps] at h
    obtain ⟨y, ys', e, h1, h2⟩ := h
    simp only [convs, Reps]
    exact ⟨y, ys', e, conv1_ok hS hL hlook x y h1, convs_ok hS hL hlook xs ys' h2⟩
theorem celems_ok {C C' : Cx} {w : World} {m : AMem} {n nx : Nat} {look : AV → AV} (hS : Sim C w m) (hL : Lets C C' n nx) (hlook : ∀ a y, Rep C w a y → Rep C' w (look a) y) (b sz : Nat) :
    ∀ (es : List AV) (off : Nat), Elems C w b (C.imm b) sz off es → Elems C' w b (C'.imm b) sz off (convs m n nx look es)
  | [], off, _ => by simp [convs, Elems]
  | e :: es, off, h => by
    simp only [Elems] at h
    obtain ⟨⟨v, h1, h2, h3⟩, h4⟩ := h
    simp only [convs, Elems]
    exact ⟨⟨v, conv1_ok hS hL hlook e v h1, h2, h3.mono (hL.imm b)⟩, celems_ok hS hL hlook b sz es (off + sz) h4⟩
end

theorem convN_ok {C C' : Cx} {w : World} {m : AMem} {n nx : Nat} (hS : Sim C w m) (hL : Lets C C' n nx) : ∀ (k : Nat) (a : AV) (y : Value), Rep C w a y → Rep C' w (convN m n nx k a) y
  | 0, _, _, _ => by simp [convN, Rep]
  | k + 1, a, y, h => by
    simp only [convN]
    exact conv1_ok hS hL (fun a y h => convN_ok hS hL k a y h) a y h

theorem conv_ok {C C' : Cx} {w : World} {m : AMem} {n nx : Nat} (hS : Sim C w m) (hL : Lets C C' n nx) (a : AV) (y : Value) (h : Rep C w a y) : Rep C' w (conv m n nx a) y := convN_ok hS hL 3 a y h

/-- The context behind a call that wrote nothing of the caller's. -/
def Cx.pureBack (C C' : Cx) (n : Nat) : Cx := { C with imm := fun b o => C'.imm b o ∨ ∃ id bi, n ≤ id ∧ C'.blk id = some bi ∧ bi.b = b }

theorem pure_back {C C' : Cx} {w w' : World} {m m' : AMem} {r : AV} {v : Value} (hS : Sim C w m) (hP : Post C w { m with ro := m.blks.length, live := [] } C' w' m') (hr : Rep C' w' r v) :
    Post C w m (C.pureBack C' m.blks.length) w' m ∧ Rep (C.pureBack C' m.blks.length) w' (conv m' m.blks.length m.next r) v := by
  have hnomut : ∀ b, ¬ Mut C { m with ro := m.blks.length, live := [] } b := by
    rintro b (⟨id, bi, h1, h2, h3⟩ | ⟨t, fo, ht, _⟩)
    · have := hS.dom id bi h1; simp at h2; omega
    · simp at ht
  have hL : Lets C' (C.pureBack C' m.blks.length) m.blks.length m.next := by
    refine ⟨fun id bi hid h => ?_, fun t x ht h => ?_, fun b o h => .inl h, fun id bi o hid h => .inr ⟨id, bi, hid, h, rfl⟩⟩
    · have := (hP.prot id hid).2
      show C.blk id = some bi
      rw [← this]; exact h
    · show C.tok t = some x
      rcases hP.toknew t x h with h | h
      · exact h
      · simp only [] at h; omega
  have himm : ∀ b o, (C.pureBack C' m.blks.length).imm b o → C.imm b o ∨ w.heap.size ≤ b := by
    intro b o hi
    rcases hi with hi | ⟨id, bi, hid, h, rfl⟩
    · rcases hP.immnew b o hi with hi | hi | hi
      · exact .inl hi
      · exact .inr hi
      · exact absurd hi (hnomut b)
    · rcases hP.blknew id bi h with h | h | h
      · have := hS.dom id bi h; omega
      · exact .inr h
      · exact absurd h (hnomut _)
  have hE : Ext C w (C.pureBack C' m.blks.length) w' :=
    ⟨hP.ext.heap, fun _ _ h => h, fun _ _ h => h, fun b o h => ⟨.inl (hP.ext.imm b o h).1, (hP.ext.imm b o h).2⟩, hP.ext.shp⟩
  have hfr : ∀ b, b < w.heap.size → w'.heap[b]? = w.heap[b]? := fun b hb => hP.frame b hb (hnomut b)
  refine ⟨⟨hE, ⟨hS.dom, fun id bi h => Nat.lt_of_lt_of_le (hS.lt id bi h) hP.ext.heap, fun id b hb => (hS.blk id b hb).keep hE (fun h => h) fun bi h => hfr _ (hS.lt id bi h), hS.inj, fun id bi o h hg hi => ?_, fun b o hi => ?_, fun t x h => ?_, fun t ht => ?_, hS.tinj, hS.nodup, hS.rolen⟩,
    fun b hb _ => hfr b hb, fun _ _ h => h, hP.os, hP.tape, hP.output, rfl, Nat.le_refl _, Nat.le_refl _, fun _ _ => ⟨rfl, rfl⟩, fun b o hi => (himm b o hi).imp id .inl, fun _ _ h => .inl h, fun _ _ h => .inl h⟩, conv_ok hP.sim hL r v hr⟩
  · rcases himm _ _ hi with hi | hi
    · exact hS.nimm id bi o h hg hi
    · have := hS.lt id bi h; omega
  · rcases himm b o hi with hi | hi
    · exact Nat.lt_of_lt_of_le (hS.immlt b o hi) hP.ext.heap
    · rcases ‹(C.pureBack C' m.blks.length).imm b o› with hi | ⟨id, bi, _, h, rfl⟩
      · exact hP.sim.immlt b o hi
      · exact hP.sim.lt id bi h
  · have := hS.tlt t x h; exact ⟨this.1, Nat.lt_of_lt_of_le this.2 hP.ext.heap⟩
  · obtain ⟨b, fo, h1, h2, h3⟩ := hS.tok t ht
    refine ⟨b, fo, h1, fun o ho hi => ?_, h3⟩
    rcases himm b o hi with hi | hi
    · exact h2 o ho hi
    · have := (hS.tlt t _ h1).2; simp at this; omega

/-- The context behind a call that may have written what was there. -/
def Cx.methBack (C' : Cx) (n : Nat) : Cx :=
  { C' with blk := fun id => if id < n then C'.blk id else none, imm := fun b o => C'.imm b o ∨ ∃ id bi, n ≤ id ∧ C'.blk id = some bi ∧ bi.b = b }

theorem convBlk_ok {C C' : Cx} {w : World} {m : AMem} {n : Nat} (hS : Sim C w m) (hL : Lets C C' n m.next) {id : Nat} {b : ABlk} (hb : m.blks[id]? = some b) (hid : id < n) (hfree : C.blk id = none → C'.blk id = none) : BlkOk C' w id (convBlk (conv m n m.next) b) := by
  have h := hS.blk id b hb
  cases b with
  | free => exact hfree h
  | gone => trivial
  | arr es sz =>
    obtain ⟨b, arr, e, h1, h2, h3, h4⟩ := h
    refine ⟨b, arr, e, by rw [List.length_map]; exact hL.blk _ _ hid h1, h2, by rw [List.length_map]; exact h3, Elems.mk fun i x hx => ?_⟩
    rw [List.getElem?_map, Option.map_eq_some_iff] at hx
    obtain ⟨x0, hx0, rfl⟩ := hx
    obtain ⟨v, g1, g2, g3⟩ := h4.get hx0
    exact ⟨v, conv_ok hS hL _ _ g1, g2, g3⟩
  | vec es sz =>
    obtain ⟨b, cnt, arr, e, h1, h2, h3, h3', h3'', h4⟩ := h
    refine ⟨b, cnt, arr, e, hL.blk _ _ hid h1, h2, by rw [List.length_map]; exact h3, h3', h3'', Elems.mk fun i x hx => ?_⟩
    rw [List.getElem?_map, Option.map_eq_some_iff] at hx
    obtain ⟨x0, hx0, rfl⟩ := hx
    obtain ⟨v, g1, g2, g3⟩ := h4.get hx0
    exact ⟨v, conv_ok hS hL _ _ g1, g2, g3⟩
  | map es =>
    obtain ⟨bi, ents, clock, h1, h2, h3⟩ := h
    refine ⟨bi, ents, clock, hL.blk _ _ hid h1, h2, ?_⟩
    generalize ents.toList = el at h3
    clear h2 hb
    induction h3 with
    | nil => exact .nil
    | cons a1 a2 _ ih => exact .cons a1 (conv_ok hS hL _ _ a2) ih
  | loop l =>
    obtain ⟨bi, L, h1, h2, h3, h4, h5, h6, h7, h8, h9⟩ := h
    refine ⟨bi, L, hL.blk _ _ hid h1, h2, h3, h4, h5, h6, h7, ?_, h9⟩
    have : ∀ {as : List AV} {ys : List Value}, Reps C w as ys → Reps C' w (as.map (conv m n m.next)) ys := by
      intro as ys h
      refine Reps.mk (by simp [h.length]) fun i a y ha hy => ?_
      rw [List.getElem?_map, Option.map_eq_some_iff] at ha
      obtain ⟨a0, ha0, rfl⟩ := ha
      exact conv_ok hS hL _ _ (h.get' ha0 hy)
    exact this h8
  | dfd =>
    obtain ⟨bi, h1, h2⟩ := h
    exact ⟨bi, hL.blk _ _ hid h1, h2⟩

theorem shrink_get {m : AMem} {n id : Nat} {b : ABlk} (h : (m.shrink n).blks[id]? = some b) : ∃ b0, id < n ∧ m.blks[id]? = some b0 ∧ ((id < m.ro ∧ b = b0) ∨ b = convBlk (conv m n m.next) b0) := by
  simp only [AMem.shrink] at h
  rw [List.getElem?_append] at h
  simp only [List.length_take] at h
  split at h
  · rename_i hlt
    rw [List.getElem?_take_of_lt (by omega)] at h
    exact ⟨b, by omega, h, .inl ⟨by omega, rfl⟩⟩
  · rename_i hge
    rw [List.getElem?_map, Option.map_eq_some_iff] at h
    obtain ⟨b0, hb0, rfl⟩ := h
    rw [List.getElem?_drop, List.getElem?_take] at hb0
    split at hb0
    · rename_i hlt
      have hlen := (List.getElem?_eq_some_iff.1 hb0).1
      have e : min m.ro n + (id - min (min m.ro n) m.blks.length) = id := by omega
      rw [e] at hb0 hlt
      exact ⟨b0, hlt, hb0, .inr rfl⟩
    · cases hb0

theorem shrink_gone {m : AMem} {n id : Nat} (h : m.blks[id]? = some .gone) (hid : id < n) : (m.shrink n).blks[id]? = some .gone := by
  have hlt := (List.getElem?_eq_some_iff.1 h).1
  simp only [AMem.shrink]
  rw [List.getElem?_append]
  simp only [List.length_take]
  split
  · rw [List.getElem?_take_of_lt (by omega)]; exact h
  · rw [List.getElem?_map, List.getElem?_drop, List.getElem?_take]
    rw [if_pos (by omega)]
    have e : min m.ro n + (id - min (min m.ro n) m.blks.length) = id := by omega
    rw [e, h]; rfl

theorem meth_back {C C' : Cx} {w w' : World} {m m' : AMem} {n : Nat} (hS : Sim C w m) (hP : Post C w m C' w' m') (hn : m.blks.length ≤ n) (hn' : n ≤ m'.blks.length) :
    Post C w m (C'.methBack n) w' (m'.shrink n) ∧ Lets C' (C'.methBack n) n m'.next := by
  have hL : Lets C' (C'.methBack n) n m'.next := by
    refine ⟨fun id bi hid h => ?_, fun t x ht h => h, fun b o h => .inl h, fun id bi o hid h => .inr ⟨id, bi, hid, h, rfl⟩⟩
    show (if id < n then C'.blk id else none) = some bi
    rw [if_pos hid]; exact h
  have hE : Ext C w (C'.methBack n) w' := by
    refine ⟨hP.ext.heap, fun id bi h => ?_, hP.ext.tok, fun b o h => ⟨.inl (hP.ext.imm b o h).1, (hP.ext.imm b o h).2⟩, hP.ext.shp⟩
    have := hS.dom id bi h
    exact hL.blk id bi (by omega) (hP.ext.blk id bi h)
  have hsub : ∀ id bi, (C'.methBack n).blk id = some bi → id < n ∧ C'.blk id = some bi := by
    intro id bi h
    simp only [Cx.methBack] at h
    split at h
    · exact ⟨‹_›, h⟩
    · cases h
  have hlen : (m'.shrink n).blks.length = n := by simp [AMem.shrink]; omega
  have hro : m'.ro = m.ro := hP.ro
  have hrl := hS.rolen
  refine ⟨⟨hE, ⟨?_, ?_, ?_, ?_, ?_, ?_, ?_, ?_, hP.sim.tinj, hP.sim.nodup, ?_⟩, hP.frame, ?_, hP.os, hP.tape, hP.output, hP.ro, ?_, hP.next, ?_, ?_, ?_, hP.toknew⟩, hL⟩
  · intro id bi h; rw [hlen]; exact (hsub id bi h).1
  · intro id bi h; exact hP.sim.lt id bi (hsub id bi h).2
  · intro id b hb
    obtain ⟨b0, hid, hb0, hb | hb⟩ := shrink_get hb
    · obtain ⟨hid', rfl⟩ := hb
      have hp := hP.prot id (by omega)
      rw [hp.1] at hb0
      refine (hS.blk id b hb0).keep hE (fun h => ?_) fun bi h => ?_
      · show (if id < n then C'.blk id else none) = none
        rw [if_pos hid, hp.2]; exact h
      · refine hP.frame _ (hS.lt id bi h) ?_
        rintro (⟨id', bi', h1, h2, h3⟩ | ⟨t, fo, ht, h1⟩)
        · have := (hS.inj id id' bi bi' h h1 h3.symm (by omega)).2; omega
        · obtain ⟨b2, fo2, g1, _, g3⟩ := hS.tok t ht
          rw [h1] at g1; cases g1
          exact g3 id bi h rfl
    · subst hb
      refine convBlk_ok hP.sim hL hb0 hid fun h => ?_
      show (if id < n then C'.blk id else none) = none
      rw [if_pos hid]; exact h
  · intro i j bi bj hi hj e hl
    have := hP.sim.inj i j bi bj (hsub i bi hi).2 (hsub j bj hj).2 e hl
    exact ⟨shrink_gone this.1 (hsub i bi hi).1, this.2⟩
  · intro id bi o h hg hi
    obtain ⟨hid, h⟩ := hsub id bi h
    have hg' : m'.blks[id]? ≠ some .gone := fun h => hg (shrink_gone h hid)
    rcases hi with hi | ⟨id', bi', hid', h', e⟩
    · exact hP.sim.nimm id bi o h hg' hi
    · exact hg' (hP.sim.inj id id' bi bi' h h' e.symm (by omega)).1
  · intro b o hi
    rcases hi with hi | ⟨id, bi, _, h, rfl⟩
    · exact hP.sim.immlt b o hi
    · exact hP.sim.lt id bi h
  · exact hP.sim.tlt
  · intro t ht
    obtain ⟨b, fo, h1, h2, h3⟩ := hP.sim.tok t ht
    refine ⟨b, fo, h1, fun o ho hi => ?_, fun id bi h => h3 id bi (hsub id bi h).2⟩
    rcases hi with hi | ⟨id, bi, _, h, e⟩
    · exact h2 o ho hi
    · exact h3 id bi h e
  · rw [hlen]; show m'.ro ≤ n; omega
  · intro b hb hm
    refine hP.mu b hb ?_
    rcases hm with ⟨id, bi, h, h2, h3⟩ | hm
    · exact .inl ⟨id, bi, (hsub id bi h).2, h2, h3⟩
    · exact .inr hm
  · rw [hlen]; exact hn
  · intro id hid
    have hp := hP.prot id hid
    refine ⟨?_, ?_⟩
    · simp only [AMem.shrink]
      rw [List.getElem?_append_left (by simp; omega), List.getElem?_take_of_lt (by omega)]
      exact hp.1
    · show (if id < n then C'.blk id else none) = C.blk id
      rw [if_pos (by omega)]; exact hp.2
  · intro b o hi
    rcases hi with hi | ⟨id, bi, hid, h, rfl⟩
    · exact hP.immnew b o hi
    · rcases hP.blknew id bi h with h | h | h
      · have := hS.dom id bi h; omega
      · exact .inr (.inl h)
      · exact .inr (.inr h)
  · intro id bi h
    exact hP.blknew id bi (hsub id bi h).2

end Go.Den
