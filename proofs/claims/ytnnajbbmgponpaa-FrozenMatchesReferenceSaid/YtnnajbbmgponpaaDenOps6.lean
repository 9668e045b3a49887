/-
  Appends. Conditions: as each statement says.
-/
import Derived.Test.YtnnajbbmgponpaaDenOps5
namespace Go.Den

def Cx.setTok (C : Cx) (t b lo hi : Nat) : Cx :=
  { C with tok := fun u => if u = t then some (b, hi) else C.tok u, imm := fun k o => C.imm k o ∨ (k = b ∧ lo ≤ o ∧ o < hi) }

/-- The cells that an append to new memory makes. -/
theorem post_tok_new {C : Cx} {w w' : World} {m : AMem} {arr : Array Value} {e : TypeId} {k : Nat} {live' : List Nat} (hS : Sim C w m) (hg : Grew w w' (Obj.cells arr e (0, 0)))
    (hsub : ∀ t ∈ live', t ∈ m.live) (hnd : live'.Nodup) : Post C w m (C.setTok m.next w.heap.size 0 k) w' { m with next := m.next + 1, live := m.next :: live' } := by
  have hnone : ∀ x, C.tok m.next ≠ some x := fun x h => by have := (hS.tlt _ _ h).1; omega
  have hx : Ext C w (C.setTok m.next w.heap.size 0 k) w' := by
    refine Ext.grew hg (fun _ _ e => e) (fun t x e => ?_) (fun _ _ e => .inl e) hS.immlt
    simp only [Cx.setTok]
    rw [if_neg (fun h => hnone x (by rw [← h]; exact e))]; exact e
  refine ⟨hx, ?_, fun b hb _ => hg.other b hb, ?_, hg.os, hg.tape, hg.output, rfl, Nat.le_refl _, Nat.le_succ _, fun _ _ => ⟨rfl, rfl⟩, fun b o hi => by
    rcases hi with hi | ⟨hi, _⟩
    · exact .inl hi
    · exact .inr (.inl (by omega)), fun _ _ h => .inl h, fun t x e => by
    simp only [Cx.setTok] at e
    split at e
    · exact .inr (by omega)
    · exact .inl e⟩
  · refine ⟨hS.dom, ?_, ?_, hS.inj, ?_, ?_, ?_, ?_, ?_, ?_, hS.rolen⟩
    · intro j bj e; have := hS.lt j bj e; rw [hg.size]; omega
    · intro j b hb; exact (hS.blk j b hb).keep hx (fun e => e) fun bj hbj => hg.other _ (hS.lt j bj hbj)
    · intro j bj off e hg hi
      rcases hi with hi | ⟨hi, _⟩
      · exact hS.nimm j bj off e hg hi
      · have := hS.lt j bj e; omega
    · intro b off e
      rw [hg.size]
      rcases e with e | ⟨e, _⟩
      · have := hS.immlt b off e; omega
      · omega
    · intro t x e
      rw [hg.size]
      simp only [Cx.setTok] at e
      split at e
      · cases e; exact ⟨by simp only []; omega, by simp⟩
      · have := hS.tlt t x e; exact ⟨by simp only []; omega, by omega⟩
    · intro t ht
      simp only [List.mem_cons] at ht
      by_cases htn : t = m.next
      · subst htn
        refine ⟨w.heap.size, k, by simp [Cx.setTok], fun o ho hi => ?_, fun j bj e => by have := hS.lt j bj e; omega⟩
        rcases hi with hi | ⟨_, _, hi⟩
        · have := hS.immlt _ _ hi; omega
        · omega
      · have ht' := hsub t (ht.resolve_left htn)
        obtain ⟨b, fo, h1, h2, h3⟩ := hS.tok t ht'
        refine ⟨b, fo, by simp [Cx.setTok, htn, h1], fun o ho hi => ?_, h3⟩
        rcases hi with hi | ⟨hi, _⟩
        · exact h2 o ho hi
        · have := (hS.tlt t _ h1).2; simp at this; omega
    · intro t t' b fo fo' ht ht' h1 h2
      simp only [List.mem_cons] at ht ht'
      simp only [Cx.setTok] at h1 h2
      by_cases e1 : t = m.next <;> by_cases e2 : t' = m.next
      · omega
      · rw [if_pos e1] at h1; rw [if_neg e2] at h2; cases h1
        have := (hS.tlt t' _ h2).2; simp at this
      · rw [if_neg e1] at h1; rw [if_pos e2] at h2; cases h2
        have := (hS.tlt t _ h1).2; simp at this
      · rw [if_neg e1] at h1; rw [if_neg e2] at h2
        exact hS.tinj t t' b fo fo' (hsub t (ht.resolve_left e1)) (hsub t' (ht'.resolve_left e2)) h1 h2
    · simp only [List.nodup_cons]
      refine ⟨fun h => ?_, hnd⟩
      obtain ⟨b, fo, h1, _⟩ := hS.tok _ (hsub _ h)
      exact hnone _ h1
  · intro b hb hm
    rcases hm with hm | ⟨t, fo, ht, h1⟩
    · exact .inl hm
    · simp only [List.mem_cons] at ht
      simp only [Cx.setTok] at h1
      by_cases e1 : t = m.next
      · rw [if_pos e1] at h1; cases h1; omega
      · rw [if_neg e1] at h1
        exact .inr ⟨t, fo, hsub t (ht.resolve_left e1), h1⟩

/-- The cells that an append writes in place. -/
theorem post_tok_in {C : Cx} {w w' : World} {m : AMem} {arr arr' : Array Value} {e : TypeId} {tk b fo n : Nat} (hS : Sim C w m) (htk : tk ∈ m.live) (hC : C.tok tk = some (b, fo)) (hb0 : w.heap[b]? = some (Obj.cells arr e (0, 0)))
    (hw : Wrote w w' b (Obj.cells arr' e (0, 0))) (hsz : arr'.size = arr.size) (hsame : ∀ j, j < fo → arr'[j]? = arr[j]?) :
    Post C w m (C.setTok m.next b fo (fo + n)) w' { m with next := m.next + 1, live := m.next :: m.live.erase tk } := by
  have hnone : ∀ x, C.tok m.next ≠ some x := fun x h => by have := (hS.tlt _ _ h).1; omega
  obtain ⟨b', fo', k1, k2, k3⟩ := hS.tok tk htk
  rw [hC] at k1; cases k1
  have hx : Ext C w (C.setTok m.next b fo (fo + n)) w' := by
    refine ⟨by rw [hw.size]; exact Nat.le_refl _, fun _ _ e => e, fun t x e => ?_, fun k o e => ⟨.inl e, ?_⟩, fun k a e' fr hk => ?_⟩
    · simp only [Cx.setTok]; rw [if_neg (fun h => hnone x (by rw [← h]; exact e))]; exact e
    · by_cases hkb : k = b
      · subst hkb
        have ho : o < fo := by
          rcases Nat.lt_or_ge o fo with h | h
          · exact h
          · exact absurd e (k2 o h)
        rw [cell_of_arr hw.at_, cell_of_arr hb0]; exact hsame o ho
      · exact cell_heap (hw.other k hkb) o
    · by_cases hkb : k = b
      · subst hkb
        rw [hb0] at hk; cases hk
        exact ⟨arr', hw.at_, hsz⟩
      · exact ⟨a, (hw.other k hkb).trans hk, rfl⟩
  refine ⟨hx, ?_, fun c hc hm => hw.other c fun h => hm (.inr ⟨tk, fo, htk, h ▸ hC⟩), ?_, hw.os, hw.tape, hw.output, rfl, Nat.le_refl _, Nat.le_succ _, fun _ _ => ⟨rfl, rfl⟩, fun c o hi => by
    rcases hi with hi | ⟨hi, _⟩
    · exact .inl hi
    · exact .inr (.inr (.inr ⟨tk, fo, htk, by rw [hi]; exact hC⟩)), fun _ _ h => .inl h, fun t x e => by
    simp only [Cx.setTok] at e
    split at e
    · exact .inr (by omega)
    · exact .inl e⟩
  · refine ⟨hS.dom, by rw [hw.size]; exact hS.lt, ?_, hS.inj, ?_, ?_, ?_, ?_, ?_, ?_, hS.rolen⟩
    · intro j bl hb; exact (hS.blk j bl hb).keep hx (fun e => e) fun bj hbj => hw.other _ (k3 j bj hbj)
    · intro j bj off e hg hi
      rcases hi with hi | ⟨hi, _⟩
      · exact hS.nimm j bj off e hg hi
      · exact k3 j bj e hi
    · intro c off e'
      rw [hw.size]
      rcases e' with e' | ⟨e', _⟩
      · exact hS.immlt c off e'
      · subst e'; exact (hS.tlt tk _ hC).2
    · intro t x e'
      rw [hw.size]
      simp only [Cx.setTok] at e'
      split at e'
      · cases e'; exact ⟨by simp only []; omega, (hS.tlt tk _ hC).2⟩
      · have := hS.tlt t x e'; exact ⟨by simp only []; omega, by omega⟩
    · intro t ht
      simp only [List.mem_cons] at ht
      by_cases htn : t = m.next
      · subst htn
        refine ⟨b, fo + n, by simp [Cx.setTok], fun o ho hi => ?_, k3⟩
        rcases hi with hi | ⟨_, _, hi⟩
        · exact k2 o (by omega) hi
        · omega
      · have ht' : t ∈ m.live := List.mem_of_mem_erase (ht.resolve_left htn)
        obtain ⟨b1, fo1, h1, h2, h3⟩ := hS.tok t ht'
        refine ⟨b1, fo1, by simp [Cx.setTok, htn, h1], fun o ho hi => ?_, h3⟩
        rcases hi with hi | ⟨hi, _⟩
        · exact h2 o ho hi
        · subst hi
          have := hS.tinj t tk _ _ _ ht' htk h1 hC
          subst this
          exact absurd (ht.resolve_left htn) (fun h => by have := (List.Nodup.mem_erase_iff hS.nodup).1 h; exact this.1 rfl)
    · intro t t' b1 fo1 fo2 ht ht' h1 h2
      simp only [List.mem_cons] at ht ht'
      simp only [Cx.setTok] at h1 h2
      by_cases e1 : t = m.next <;> by_cases e2 : t' = m.next
      · omega
      · rw [if_pos e1] at h1; rw [if_neg e2] at h2; cases h1
        have hm := ht'.resolve_left e2
        have := hS.tinj t' tk _ _ _ (List.mem_of_mem_erase hm) htk h2 hC
        subst this
        exact absurd rfl ((List.Nodup.mem_erase_iff hS.nodup).1 hm).1
      · rw [if_neg e1] at h1; rw [if_pos e2] at h2; cases h2
        have hm := ht.resolve_left e1
        have := hS.tinj t tk _ _ _ (List.mem_of_mem_erase hm) htk h1 hC
        subst this
        exact absurd rfl ((List.Nodup.mem_erase_iff hS.nodup).1 hm).1
      · rw [if_neg e1] at h1; rw [if_neg e2] at h2
        exact hS.tinj t t' b1 fo1 fo2 (List.mem_of_mem_erase (ht.resolve_left e1)) (List.mem_of_mem_erase (ht'.resolve_left e2)) h1 h2
    · simp only [List.nodup_cons]
      refine ⟨fun h => ?_, hS.nodup.erase _⟩
      obtain ⟨b1, fo1, h1, _⟩ := hS.tok _ (List.mem_of_mem_erase h)
      exact hnone _ h1
  · intro c hc hm
    rcases hm with hm | ⟨t, fo1, ht, h1⟩
    · exact .inl hm
    · simp only [List.mem_cons] at ht
      simp only [Cx.setTok] at h1
      by_cases e1 : t = m.next
      · rw [if_pos e1] at h1; cases h1; exact .inr ⟨tk, fo, htk, hC⟩
      · rw [if_neg e1] at h1
        exact .inr ⟨t, fo1, List.mem_of_mem_erase (ht.resolve_left e1), h1⟩

section
variable {P : Program} {C : Cx} {w : World}

theorem info_of {t : TypeId} {n : Nat} (h : sizeA P t = some n) : ∃ i, P.info? t = some i ∧ i.size = n := by
  unfold sizeA at h
  rw [Option.map_eq_some_iff] at h
  exact h

theorem grew_drew_alloc (w : World) (o : Obj) : Grew w (w.drew.alloc o) o := by
  have h := grew_alloc w.drew o
  exact ⟨h.at_, h.other, h.size, h.os, h.tape, h.output⟩

/-- The slice that an append to new memory hands back. -/
theorem rep_grown {w' : World} {m : AMem} {sz n cap : Nat} {es : List AV} {vs : List Value} {arr : Array Value} {e : TypeId} {live' : List Nat} (hS : Sim C w m) (hr : Row C w sz es vs) (hc : ∀ (j : Nat) (x : Value), (flat vs)[j]? = some x → arr[j]? = some x)
    (hg : Grew w w' (Obj.cells arr e (0, 0))) (hn : es.length = n) (hle : n ≤ cap) (hfit : cap * sz ≤ arr.size) (hsub : ∀ t ∈ live', t ∈ m.live) (hnd : live'.Nodup) :
    Post C w m (C.setTok m.next w.heap.size 0 (n * sz)) w' { m with next := m.next + 1, live := m.next :: live' } ∧
      Rep (C.setTok m.next w.heap.size 0 (n * sz)) w' (.sl sz es (.tok m.next)) (.slice (some ⟨w.heap.size, 0, none⟩) n cap) := by
  have hp := post_tok_new (k := n * sz) hS hg hsub hnd
  refine ⟨hp, ?_⟩
  simp only [Rep]
  refine ⟨⟨w.heap.size, 0, none⟩, cap, by rw [hn], by omega, .inl rfl, (hr.ext hp.ext).elems fun j x hx => ⟨.inr ⟨rfl, Nat.zero_le _, ?_⟩, ?_, hr.cells_one x (List.mem_of_getElem? hx)⟩, ?_⟩
  · have := (List.getElem?_eq_some_iff.1 hx).1
    rw [hr.len, hn] at this; simp only []; omega
  · rw [Nat.zero_add, cell_of_arr hg.at_]; exact hc j x hx
  · refine .inr ⟨rfl, by simp [Cx.setTok, hn], arr, e, hg.at_, by simp only []; omega⟩

theorem run_append_none {t ty el : TypeId} {size : Nat} {base xb : Option Addr} {sLen sCap xc : Nat} (hu : P.underlying t = some (.slice el)) (hs : sizeA P el = some size) (hle : sLen ≤ sCap) :
    (Builtin.append_ #[t, t] ty #[.slice base sLen sCap, .slice xb 0 xc]).run P w = .ok (.slice base sLen sCap) w := by
  cases xb <;> cases base <;> simp [Builtin.append_, run_und hu, run_size hs, Builtin.lenOf, hle, Builtin.firstCells, loadCells, loadCellsFrom, storeCells]

/-- An append within the capacity. -/
theorem run_append_in {t ty el : TypeId} {size b off sLen sCap n c : Nat} {a : Addr} {news : List Value} {arr : Array Value} {e : TypeId} (hu : P.underlying t = some (.slice el)) (hs : sizeA P el = some size)
    (hb : w.heap[b]? = some (Obj.cells arr e (0, 0))) (hl : news.length = n * size) (hnews : ∀ (j : Nat) (u : Value), news[j]? = some u → w.cell? (a.add j) = some u) (h1 : ∀ u ∈ news, u.oneCell' = true)
    (hroom : sLen + n ≤ sCap) (hfit : off + sCap * size ≤ arr.size) :
    ∃ (w' : World) (arr' : Array Value), (Builtin.append_ #[t, t] ty #[.slice (some ⟨b, off, none⟩) sLen sCap, .slice (some a) n c]).run P w = .ok (.slice (some ⟨b, off, none⟩) (sLen + n) sCap) w' ∧
      Wrote w w' b (Obj.cells arr' e (0, 0)) ∧ arr'.size = arr.size ∧ (∀ j x, news[j]? = some x → arr'[off + sLen * size + j]? = some x) ∧ ∀ j, j < off + sLen * size → arr'[j]? = arr[j]? := by
  have hf := run_firstCells_some (P := P) w size n a n c news hl hnews
  have hmul : sLen * size + n * size ≤ sCap * size := by rw [← Nat.add_mul]; exact Nat.mul_le_mul_right _ hroom
  obtain ⟨w', arr', g1, g2, g3, g4, g5⟩ := run_stores (P := P) news 0 w b (off + sLen * size) arr e hb (by omega) h1
  refine ⟨w', arr', ?_, g2, g3, fun j x hx => by simpa using g4 j x hx, fun j hj => g5 j (.inl (by omega))⟩
  simp [Builtin.append_, run_und hu, run_size hs, Builtin.lenOf, hroom, hf, add_none, g1]

theorem get_append_zeros {l : List Value} {z : Array Value} {k : Nat} (j : Nat) (x : Value) (h : l[j]? = some x) : (l.toArray ++ Builtin.zeroCells z k)[j]? = some x := by
  have hj := (List.getElem?_eq_some_iff.1 h).1
  rw [Array.getElem?_append_left (by simpa using hj)]
  simpa using h

theorem append_ok {t ty : TypeId} {sa xa : AV} {s x : Value} {r : Req} {m m' : AMem} {y : AV} {acc : Acc} (hq : appendReq P t sa xa = some r) (hrun : r.run m = some (y, m', acc)) (hS : Sim C w m) (hs : Rep C w sa s) (hx : Rep C w xa x) :
    VOk P (Builtin.append_ #[t, t] ty #[s, x]) w fun v w' => ∃ C', Post C w m C' w' m' ∧ Rep C' w' y v := by
  unfold appendReq at hq
  split at hq
  · rename_i el hu
    split at hq
    · rename_i size za sz es hsize hz0 hit
      obtain ⟨i, hi, hisz⟩ := info_of hsize
      have hby : P.bytesOf el = i.bytes := by simp [Program.bytesOf, hi]
      split at hq
      · -- nothing is appended
        have hxe : ∃ xb xc, x = .slice xb 0 xc := by
          unfold itemsA at hit
          split at hit
          · simp only [Rep] at hx; exact ⟨_, _, hx⟩
          · cases hit
            simp only [Rep] at hx
            obtain ⟨a0, cap, rfl, _⟩ := hx
            exact ⟨_, _, rfl⟩
          · cases hit
        obtain ⟨xb, xc, rfl⟩ := hxe
        split at hq
        · cases hq; cases hrun
          have hs' := hs
          simp only [Rep] at hs
          obtain ⟨a0, cap, rfl, hle, _⟩ := hs
          exact .of (run_append_none hu hsize hle) ⟨C, Post.refl hS, hs'⟩
        · cases hq; cases hrun
          have hs' := hs
          simp only [Rep] at hs
          obtain ⟨bi, cap, _, _, rfl, hle, _⟩ := hs
          exact .of (run_append_none hu hsize hle) ⟨C, Post.refl hS, hs'⟩
        · cases hq; cases hrun
          have hs' := hs
          simp only [Rep] at hs
          subst hs
          exact .of (run_append_none hu hsize (Nat.le_refl _)) ⟨C, Post.refl hS, hs'⟩
        · cases hq
      · rename_i e es'
        split at hq
        · rename_i hck
          simp only [Bool.and_eq_true, beq_iff_eq] at hck
          obtain ⟨⟨hszz, hzp⟩, hzl⟩ := hck
          subst hszz
          obtain ⟨z, hzi, hzs⟩ : ∃ z, i.zero = some z ∧ z.cells.size = i.size := by
            unfold zeroA at hz0
            rw [hi] at hz0
            cases hzz : i.zero with
            | none => simp [hzz] at hz0
            | some z =>
              simp [hzz] at hz0
              subst hz0
              obtain ⟨hr, _⟩ := rep_cells hzp (rep_ofV C w z)
              exact ⟨z, rfl, by rw [hisz, ← hzl, hr.length]; simp⟩
          -- the elements that come
          have hxs : ∃ a n c vs, x = .slice (some a) n c ∧ n = es'.length + 1 ∧ Row C w sz (e :: es') vs ∧ ∀ (j : Nat) (u : Value), (flat vs)[j]? = some u → w.cell? (a.add j) = some u := by
            unfold itemsA at hit
            split at hit
            · cases hit
            · cases hit
              simp only [Rep] at hx
              obtain ⟨a0, cap, rfl, hle, hsp, hel, _⟩ := hx
              obtain ⟨vs, hr, hst⟩ := hel.row
              exact ⟨a0, _, cap, vs, rfl, by simp, hr, fun j u hj => by rw [addr_eta (hsp.resolve_right (by simp)), add_none]; exact (hst j u hj).2.1⟩
            · cases hit
          obtain ⟨a, n, c, vs, rfl, hn, hrow, hcell⟩ := hxs
          have hfl : (flat vs).length = n * i.size := by rw [hrow.len, hisz, hn]; simp
          split at hq
          · -- onto nil
            cases hq
            simp only [Req.run, Option.map_eq_some_iff] at hrun
            obtain ⟨q, hrun, e2⟩ := hrun
            split at hrun
            · rename_i hroom
              cases hrun
              cases e2
              simp only [Rep] at hs; subst hs
              simp only [roomFor, Bool.and_eq_true, decide_eq_true_eq, hby, ← hn] at hroom
              have hr := run_append_nil (P := P) w t ty el i z hu hi hzi a n c (flat vs) hfl hcell (by omega) (by omega) (by omega)
              have hge := grownCap_ge w n 0 el
              obtain ⟨h1, h2⟩ := rep_grown (n := n) (cap := grownCap w n 0 el) (live' := m.live) hS hrow (fun j u hj => get_append_zeros (z := z.cells) (k := grownCap w n 0 el - n) j u hj) (grew_drew_alloc w _) (by simp [hn]) hge
                (by simp only [Array.size_append, List.size_toArray, size_zeroCells, hzs, hfl, hisz, ← Nat.add_mul]; exact Nat.mul_le_mul_right _ (by omega)) (fun _ h => h) hS.nodup
              exact .of hr ⟨_, h1, h2⟩
            · cases hrun
          · -- onto a slice that has no room
            rename_i sz0 es0
            split at hq
            · rename_i hsz0
              have hsz0 : sz0 = sz := by simpa using hsz0
              subst hsz0
              cases hq
              simp only [Req.run, Option.map_eq_some_iff] at hrun
              obtain ⟨q, hrun, e2⟩ := hrun
              split at hrun
              · rename_i hroom
                cases hrun
                cases e2
                simp only [Rep] at hs
                obtain ⟨a0, cap, rfl, hle, hsp, hel, hcap⟩ := hs
                simp only [CapOk] at hcap
                subst hcap
                obtain ⟨us, hr0, hst0⟩ := hel.row
                have hfl0 : (flat us).length = es0.length * i.size := by rw [hr0.len, hisz]
                have holds : ∀ (j : Nat) (u : Value), (flat us)[j]? = some u → w.cell? (a0.add j) = some u := fun j u hj => by
                  rcases hsp with hsp | hnil
                  · rw [addr_eta hsp, add_none]; exact (hst0 j u hj).2.1
                  · rw [hnil] at hfl0; simp at hfl0; rw [List.eq_nil_of_length_eq_zero (l := flat us) (by rw [hr0.len, hnil]; simp)] at hj; simp at hj
                simp only [roomFor, Bool.and_eq_true, decide_eq_true_eq, hby, ← hn] at hroom
                have hr := run_append_grow (P := P) w t ty el i z hu hi hzi a0 es0.length es0.length (flat us) hfl0 holds a n c (flat vs) hfl hcell (by omega) (by omega) (growslice_fits (by omega) (by omega))
                simp only [List.append_toArray] at hr
                have hge := grownCap_ge w (es0.length + n) es0.length el
                obtain ⟨h1, h2⟩ := rep_grown (n := es0.length + n) (cap := grownCap w (es0.length + n) es0.length el) (live' := m.live) hS (hr0.append hrow)
                  (fun j u hj => by rw [flat_append] at hj; exact get_append_zeros (z := z.cells) (k := grownCap w (es0.length + n) es0.length el - (es0.length + n)) j u hj) (grew_drew_alloc w (Obj.cells ((flat us ++ flat vs).toArray ++ Builtin.zeroCells z.cells (grownCap w (es0.length + n) es0.length el - (es0.length + n))) el)) (by simp [hn]) hge
                  (by simp only [Array.size_append, List.size_toArray, List.length_append, size_zeroCells, hzs, hfl, hfl0, hisz, ← Nat.add_mul]; exact Nat.mul_le_mul_right _ (by omega)) (fun _ h => h) hS.nodup
                exact .of hr ⟨_, h1, h2⟩
              · cases hrun
            · cases hq
          · -- onto a slice with a token
            rename_i sz0 es0 tk
            split at hq
            · rename_i hsz0
              have hsz0 : sz0 = sz := by simpa using hsz0
              subst hsz0
              cases hq
              simp only [Req.run, Option.map_eq_some_iff] at hrun
              obtain ⟨q, hrun, e2⟩ := hrun
              split at hrun
              · rename_i hroom
                cases hrun
                cases e2
                simp only [Rep] at hs
                obtain ⟨a0, cap, rfl, hle, hsp, hel, hcap⟩ := hs
                obtain ⟨us, hr0, hst0⟩ := hel.row
                have hfl0 : (flat us).length = es0.length * i.size := by rw [hr0.len, hisz]
                have holds : ∀ (j : Nat) (u : Value), (flat us)[j]? = some u → w.cell? (a0.add j) = some u := fun j u hj => by
                  rcases hsp with hsp | hnil
                  · rw [addr_eta hsp, add_none]; exact (hst0 j u hj).2.1
                  · rw [List.eq_nil_of_length_eq_zero (l := flat us) (by rw [hr0.len, hnil]; simp)] at hj; simp at hj
                simp only [roomFor, Bool.and_eq_true, decide_eq_true_eq, hby, ← hn] at hroom
                obtain ⟨hlive, hroom⟩ := hroom
                have htk : tk ∈ m.live := by simpa using hlive
                by_cases hin : es0.length + n ≤ cap
                · -- in place
                  rcases hcap with hcap | ⟨h0, h1, arr, e0, h2, h3⟩
                  · omega
                  obtain ⟨b, off, hab⟩ : ∃ b off, a0 = ⟨b, off, none⟩ := ⟨_, _, addr_eta h0⟩
                  subst hab
                  simp only [] at h1 h2 h3 hel
                  have h3' : off + cap * i.size ≤ arr.size := by rw [hisz]; exact h3
                  obtain ⟨w', arr', g1, g2, g3, g4, g5⟩ := run_append_in (P := P) (ty := ty) (c := c) (a := a) hu (by rw [hsize, hisz]) h2 hfl hcell hrow.cells_one hin h3'
                  have hpost := post_tok_in (n := (flat vs).length) hS htk h1 h2 g2 g3 (fun j hj => g5 j (by rw [hisz]; omega))
                  refine .of g1 ⟨_, hpost, ?_⟩
                  simp only [Rep]
                  refine ⟨⟨b, off, none⟩, cap, by simp [hn], by simp; omega, .inl rfl, ((hel.ext hpost.ext b sz0 es0 off)).append ((hrow.ext hpost.ext).elems fun j u hj => ⟨.inr ⟨rfl, by omega, ?_⟩, ?_, hrow.cells_one u (List.mem_of_getElem? hj)⟩), .inr ⟨rfl, ?_, arr', e0, g2.at_, by simp only []; omega⟩⟩
                  · have := (List.getElem?_eq_some_iff.1 hj).1; omega
                  · rw [cell_of_arr g2.at_]
                    have := g4 j u hj
                    rw [hisz] at this; exact this
                  · simp only [Cx.setTok, if_true]
                    rw [hfl, hisz]
                    simp only [List.length_append, List.length_cons, ← hn, Nat.add_mul]
                    congr 2; omega
                · have hr := run_append_grow (P := P) w t ty el i z hu hi hzi a0 es0.length cap (flat us) hfl0 holds a n c (flat vs) hfl hcell (by omega) (by omega) (growslice_fits (by omega) (by omega))
                  simp only [List.append_toArray] at hr
                  have hge := grownCap_ge w (es0.length + n) cap el
                  obtain ⟨h1, h2⟩ := rep_grown (n := es0.length + n) (cap := grownCap w (es0.length + n) cap el) (live' := m.live.erase tk) hS (hr0.append hrow)
                    (fun j u hj => by rw [flat_append] at hj; exact get_append_zeros (z := z.cells) (k := grownCap w (es0.length + n) cap el - (es0.length + n)) j u hj) (grew_drew_alloc w (Obj.cells ((flat us ++ flat vs).toArray ++ Builtin.zeroCells z.cells (grownCap w (es0.length + n) cap el - (es0.length + n))) el)) (by simp [hn]) hge
                    (by simp only [Array.size_append, List.size_toArray, List.length_append, size_zeroCells, hzs, hfl, hfl0, hisz, ← Nat.add_mul]; exact Nat.mul_le_mul_right _ (by omega)) (fun _ h => List.mem_of_mem_erase h) (hS.nodup.erase _)
                  exact .of hr ⟨_, h1, h2⟩
              · cases hrun
            · cases hq
          · cases hq
        · cases hq
    · cases hq
  · cases hq
/-- Elements of a slice, wherever they lie. -/
theorem itemsM_ok {m : AMem} {xa : AV} {x : Value} {sz : Nat} {es : List AV} (hS : Sim C w m) (h : itemsM m xa = some (sz, es)) (hx : Rep C w xa x) :
    (∃ xb c, x = .slice xb es.length c) ∧ (es ≠ [] → ∃ a c vs, x = .slice (some a) es.length c ∧ Row C w sz es vs ∧ ∀ (j : Nat) (u : Value), (flat vs)[j]? = some u → w.cell? (a.add j) = some u) := by
  have own : ∀ {sz id off n : Nat} {bs : List AV} {szb : Nat}, Rep C w (.own sz id off n) x → (∃ bi, C.blk id = some bi ∧ bi.sz = szb ∧ Elems C w bi.b (fun _ => True) szb 0 bs) → off + n ≤ bs.length →
      x = .slice (match x with | .slice a _ _ => a | _ => none) n (match x with | .slice _ _ c => c | _ => 0) ∧ ∃ a c vs, x = .slice (some a) ((bs.drop off).take n).length c ∧ Row C w sz ((bs.drop off).take n) vs ∧ ∀ (j : Nat) (u : Value), (flat vs)[j]? = some u → w.cell? (a.add j) = some u := by
    intro sz id off n bs szb hx ⟨bi, hC, hs, hel⟩ hle
    simp only [Rep] at hx
    obtain ⟨bi', cap, hC', hsz, rfl, hn, hcnt⟩ := hx
    rw [hC] at hC'; cases hC'
    refine ⟨rfl, ⟨bi.b, off * bi.sz, none⟩, cap, ?_⟩
    have hlen : ((bs.drop off).take n).length = n := by simp; omega
    have hsub := (hel.drop off).take n
    rw [Nat.zero_add] at hsub
    obtain ⟨vs, hr, hst⟩ := hsub.row
    have hss : szb = sz := by rw [← hs, hsz]
    subst hss
    refine ⟨vs, by rw [hlen], hr, fun j u hj => ?_⟩
    rw [add_none, hs]
    exact (hst j u hj).2.1
  unfold itemsM at h
  split at h
  · rename_i sz' id off n
    split at h
    · rename_i bs szb hb
      split at h
      · rename_i hle
        cases h
        obtain ⟨b0, arr, e0, g1, g2, g3, g4⟩ := hS.blk id _ hb
        obtain ⟨k1, k2⟩ := own hx ⟨_, g1, rfl, g4⟩ hle
        obtain ⟨a, c, vs, rfl, hr, hcell⟩ := k2
        exact ⟨⟨_, _, rfl⟩, fun _ => ⟨a, c, vs, rfl, hr, hcell⟩⟩
      · cases h
    · rename_i bs szb hb
      split at h
      · rename_i hle
        cases h
        obtain ⟨b0, cnt, arr, e0, g1, g2, g3, g4, g4', g5⟩ := hS.blk id _ hb
        obtain ⟨k1, k2⟩ := own hx ⟨_, g1, rfl, g5⟩ hle
        obtain ⟨a, c, vs, rfl, hr, hcell⟩ := k2
        exact ⟨⟨_, _, rfl⟩, fun _ => ⟨a, c, vs, rfl, hr, hcell⟩⟩
      · cases h
    · cases h
  · unfold itemsA at h
    split at h
    · cases h
      simp only [Rep] at hx
      exact ⟨⟨_, _, hx⟩, fun h => absurd rfl h⟩
    · cases h
      simp only [Rep] at hx
      obtain ⟨a0, cap, rfl, hle, hsp, hel, _⟩ := hx
      obtain ⟨vs, hr, hst⟩ := hel.row
      refine ⟨⟨_, _, rfl⟩, fun hne => ⟨a0, cap, vs, rfl, hr, fun j u hj => ?_⟩⟩
      rw [addr_eta (hsp.resolve_right hne), add_none]
      exact (hst j u hj).2.1
    · cases h

theorem appendVec_ok {t ty : TypeId} {sa xa : AV} {s x : Value} {r : Req} {m m' : AMem} {y : AV} {acc : Acc} (hq : appendVecReq P t sa xa = some r) (hrun : r.run m = some (y, m', acc)) (hS : Sim C w m) (hs : Rep C w sa s) (hx : Rep C w xa x) :
    VOk P (Builtin.append_ #[t, t] ty #[s, x]) w fun v w' => ∃ C', Post C w m C' w' m' ∧ Rep C' w' y v := by
  unfold appendVecReq at hq
  split at hq
  · rename_i el hu
    split at hq
    · rename_i size za hsize hz0
      split at hq
      · rename_i hck
        simp only [Bool.and_eq_true, beq_iff_eq] at hck
        obtain ⟨hzp, hzl⟩ := hck
        obtain ⟨i, hi, hisz⟩ := info_of hsize
        have hby : P.bytesOf el = i.bytes := by simp [Program.bytesOf, hi]
        obtain ⟨z, hzi, hzs⟩ : ∃ z, i.zero = some z ∧ z.cells.size = i.size := by
          unfold zeroA at hz0
          rw [hi] at hz0
          cases hzz : i.zero with
          | none => simp [hzz] at hz0
          | some z =>
            simp [hzz] at hz0
            subst hz0
            obtain ⟨hr, _⟩ := rep_cells hzp (rep_ofV C w z)
            exact ⟨z, rfl, by rw [hisz, ← hzl, hr.length]; simp⟩
        cases hq
        simp only [Req.run, Option.map_eq_some_iff] at hrun
        obtain ⟨⟨q1, q2⟩, hrun, e2⟩ := hrun
        simp only [Prod.mk.injEq] at e2
        obtain ⟨rfl, rfl, _⟩ := e2
        split at hrun
        · rename_i sz e es' hit
          obtain ⟨_, hxs⟩ := itemsM_ok hS hit hx
          obtain ⟨a, c, vs, rfl, hrow, hcell⟩ := hxs (by simp)
          split at hrun
          · rename_i hszz
            have hszz : sz = size := by simpa using hszz
            subst hszz
            obtain ⟨n, hn⟩ : ∃ n, n = es'.length + 1 := ⟨_, rfl⟩
            have hlen : (e :: es').length = n := hn.symm
            rw [← hn] at hrun
            rw [hlen]
            have hfl : (flat vs).length = n * i.size := by rw [hrow.len, hisz, hlen]
            split at hrun
            · -- onto nil
              split at hrun
              · rename_i hroom
                cases hrun
                simp only [Rep] at hs; subst hs
                simp only [roomFor, Bool.and_eq_true, decide_eq_true_eq, hby] at hroom
                have hr := run_append_nil (P := P) w t ty el i z hu hi hzi a n c (flat vs) hfl hcell (by omega) (by omega) (by omega)
                have hge := grownCap_ge w n 0 el
                obtain ⟨h1, h2⟩ := rep_new_vec (n := n) (cap := grownCap w n 0 el) hS hrow (fun j u hj => get_append_zeros (z := z.cells) (k := grownCap w n 0 el - n) j u hj) (grew_drew_alloc w _) hlen hge
                  (by simp only [Array.size_append, List.size_toArray, size_zeroCells, hzs, hfl, hisz, ← Nat.add_mul]; exact Nat.mul_le_mul_right _ (by omega)) (grownCap_le_maxLen w n 0 el (by unfold maxLen; omega))
                exact .of hr ⟨_, h1, h2⟩
              · cases hrun
            · -- onto a slice of one's own
              rename_i sz0 id n0
              split at hrun
              · rename_i hro
                split at hrun
                · rename_i es0 sz1 hb
                  split at hrun
                  · rename_i hck2
                    simp only [Bool.and_eq_true, beq_iff_eq, decide_eq_true_eq, roomFor, hby] at hck2
                    obtain ⟨⟨⟨h00, h01⟩, hn0⟩, hroom⟩ := hck2
                    have h00 := h00.symm
                    have h01 := h01.symm
                    subst h00; subst h01
                    cases hrun
                    obtain ⟨b, cnt, arr, e0, g1, g2, g3, g4, g4', g5⟩ := hS.blk id _ hb
                    simp only [Rep] at hs
                    obtain ⟨bi, cap, hC, hbs, rfl, hle, hcnt⟩ := hs
                    rw [hC] at g1; cases g1
                    simp only [Nat.zero_mul, Nat.zero_add] at hcnt ⊢
                    have hel0 := g5.take n0
                    obtain ⟨us, hr0, hst0⟩ := hel0.row
                    have hl0 : (es0.take n0).length = n0 := by simp; omega
                    have hfl0 : (flat us).length = n0 * i.size := by rw [hr0.len, hisz, hl0]
                    have holds : ∀ (j : Nat) (u : Value), (flat us)[j]? = some u → w.cell? ((⟨b, 0, none⟩ : Addr).add j) = some u := fun j u hj => by
                      rw [add_none]; exact (hst0 j u hj).2.1
                    by_cases hin : n0 + n ≤ cap
                    · -- in place
                      have hfit : 0 + cap * i.size ≤ arr.size := by
                        have := Nat.mul_le_mul_right i.size hcnt
                        rw [hisz] at this ⊢; omega
                      obtain ⟨w', arr', k1, k2, k3, k4, k5⟩ := run_append_in (P := P) (ty := ty) (c := c) (a := a) hu (by rw [hsize, hisz]) g2 hfl hcell hrow.cells_one hin hfit
                      have hpost := post_moved (blk' := .vec (es0.take n0 ++ e :: es') sz) hS hC hb (by simp) hro k2 g2 (alike_cells k3) fun hE => by
                        refine ⟨b, cnt, arr', e0, by simp [Cx.setBlk], k2.at_, by simp only [List.length_append, hl0, hlen]; omega, by rw [k3]; exact g4, g4', ?_⟩
                        refine Elems.append ((hr0.ext hE).elems fun j u hj => ⟨trivial, ?_, hr0.cells_one u (List.mem_of_getElem? hj)⟩) ((hrow.ext hE).elems fun j u hj => ⟨trivial, ?_, hrow.cells_one u (List.mem_of_getElem? hj)⟩)
                        · have hlt := (List.getElem?_eq_some_iff.1 hj).1
                          have := holds j u hj
                          rw [add_none, cell_of_arr g2] at this
                          rw [cell_of_arr k2.at_, k5 _ (by rw [hfl0] at hlt; omega)]
                          exact this
                        · rw [cell_of_arr k2.at_, hl0]
                          have := k4 j u hj
                          rw [hisz] at this; exact this
                      refine .of k1 ⟨_, hpost, ?_⟩
                      simp only [Rep]
                      exact ⟨_, cap, by simp [Cx.setBlk]; rfl, rfl, by simp, hin, by simpa using hcnt⟩
                    · have hr := run_append_grow (P := P) w t ty el i z hu hi hzi ⟨b, 0, none⟩ n0 cap (flat us) hfl0 holds a n c (flat vs) hfl hcell (by omega) (by omega) (growslice_fits (by omega) (by omega))
                      simp only [List.append_toArray] at hr
                      have hge := grownCap_ge w (n0 + n) cap el
                      obtain ⟨h1, h2⟩ := rep_new_vec (n := n0 + n) (cap := grownCap w (n0 + n) cap el) hS (hr0.append hrow)
                        (fun j u hj => by rw [flat_append] at hj; exact get_append_zeros (z := z.cells) (k := grownCap w (n0 + n) cap el - (n0 + n)) j u hj) (grew_drew_alloc w (Obj.cells ((flat us ++ flat vs).toArray ++ Builtin.zeroCells z.cells (grownCap w (n0 + n) cap el - (n0 + n))) el)) (by simp only [List.length_append, hl0, hlen]) hge
                        (by simp only [Array.size_append, List.size_toArray, List.length_append, size_zeroCells, hzs, hfl, hfl0, hisz, ← Nat.add_mul]; exact Nat.mul_le_mul_right _ (by omega)) (grownCap_le_maxLen w (n0 + n) cap el (by unfold maxLen; omega))
                      have hlt : id < m.blks.length := (List.getElem?_eq_some_iff.1 hb).1
                      have h3 := h1.trans (post_gone (id := id) h1.sim hro (by simp; omega))
                      have e1 : (m.blks ++ [ABlk.vec (es0.take n0 ++ e :: es') sz]).set id .gone = m.blks.set id .gone ++ [.vec (es0.take n0 ++ e :: es') sz] := List.set_append_left _ _ hlt
                      simp only [e1] at h3
                      exact .of hr ⟨_, h3, h2⟩
                  · cases hrun
                · cases hrun
              · cases hrun
            · cases hrun
          · cases hrun
        · -- nothing is appended
          rename_i hit
          obtain ⟨⟨xb, xc, rfl⟩, _⟩ := itemsM_ok hS hit hx
          simp only [List.length_nil]
          split at hrun
          · cases hrun
            have hs' := hs
            simp only [Rep] at hs; subst hs
            exact .of (run_append_none hu hsize (Nat.le_refl _)) ⟨C, Post.refl hS, hs'⟩
          · cases hrun
            have hs' := hs
            simp only [Rep] at hs
            obtain ⟨bi, cap, _, _, rfl, hle, _⟩ := hs
            exact .of (run_append_none hu hsize hle) ⟨C, Post.refl hS, hs'⟩
          · cases hrun
        · cases hrun
      · cases hq
    · cases hq
  · cases hq

end
end Go.Den
