/-
  A store into a variable or an element of one's own; a new variable. Conditions: as each statement says.
-/
import Derived.Test.YtnnajbbmgponpaaDenOps1
namespace Go.Den

theorem mul_lt_of_lt {i j sz : Nat} (h : i < j) : i * sz + sz ≤ j * sz := by
  have := Nat.mul_le_mul_right sz (show i + 1 ≤ j from h)
  rw [Nat.add_mul] at this; omega

theorem Reps.splice {C : Cx} {w : World} {cs xs : List AV} {ys zs : List Value} (h : Reps C w cs ys) (k : Reps C w xs zs) (off : Nat) :
    Reps C w (spliceA cs off xs) (ys.take off ++ zs ++ ys.drop (off + zs.length)) := by
  unfold spliceA
  rw [k.length]
  exact ((h.take off).append k).append (h.drop _)

theorem getElem_splice {ys zs : List Value} {off : Nat} (h : off + zs.length ≤ ys.length) (j : Nat) :
    (ys.take off ++ zs ++ ys.drop (off + zs.length))[j]? = if j < off then ys[j]? else if j < off + zs.length then zs[j - off]? else ys[j]? := by
  simp only [List.append_assoc]
  rw [List.getElem?_append]
  simp only [List.length_take, Nat.min_eq_left (show off ≤ ys.length by omega)]
  split
  · rename_i hlt; rw [List.getElem?_take_of_lt hlt]
  · rw [List.getElem?_append]
    split
    · rename_i h1 h2; rw [if_pos (by omega)]
    · rename_i h1 h2; rw [if_neg (by omega), List.getElem?_drop]; congr 1; omega

/-- What a store into an element makes of it. -/
theorem storeIn_ok {P : Program} {C : Cx} {w : World} {t : TypeId} {e e' x : AV} {off sz : Nat} {v xv : Value} (hs : storeIn P t e off sz x = some e') (he : Rep C w e v) (hx : Rep C w x xv) (hsz : v.cells.size = sz) :
    ∃ n, sizeA P t = some n ∧ xv.cells.size = n ∧ (∀ c ∈ xv.cells.toList, c.oneCell' = true) ∧ off + n ≤ sz ∧
      ∃ v', v'.cells.size = sz ∧ (∀ C' w', Ext C w C' w' → Rep C' w' e' v') ∧
        ∀ j, v'.cells.toList[j]? = if j < off then v.cells.toList[j]? else if j < off + n then xv.cells.toList[j - off]? else v.cells.toList[j]? := by
  unfold storeIn at hs
  cases hn : sizeA P t with
  | none => simp [hn] at hs
  | some n =>
    rw [hn] at hs
    simp only at hs
    split at hs
    · rename_i hc
      simp only [Bool.and_eq_true, beq_iff_eq] at hc
      obtain ⟨⟨hxp, hxl⟩, hep⟩ := hc
      obtain ⟨hxr, hxo⟩ := rep_cells hxp hx
      have hxs : xv.cells.size = n := by rw [← hxl, hxr.length]; simp
      refine ⟨n, rfl, hxs, hxo, ?_⟩
      split at hs
      · rename_i cs
        split at hs
        · rename_i hle
          simp only [Bool.and_eq_true, decide_eq_true_eq, beq_iff_eq] at hle
          obtain ⟨h1, h2⟩ := hle
          cases hs
          simp only [Rep] at he
          obtain ⟨ys, rfl, hr, ho⟩ := he
          simp only [cells_agg] at hsz ⊢
          have hyl : ys.toList.length = sz := by simpa using hsz
          have hzl : xv.cells.toList.length = n := by simpa using hxs
          refine ⟨by omega, .agg ((ys.toList.take off ++ xv.cells.toList ++ ys.toList.drop (off + xv.cells.toList.length)).toArray), ?_, ?_, ?_⟩
          · simp only [cells_agg, List.size_toArray, List.length_append, List.length_take, List.length_drop]; omega
          · intro C' w' hx'
            simp only [Rep]
            refine ⟨_, rfl, by simpa using Reps.ext hx' _ _ (hr.splice hxr off), ?_⟩
            intro c hcm
            simp only [List.mem_append] at hcm
            rcases hcm with (hcm | hcm) | hcm
            · exact ho c (List.mem_of_mem_take hcm)
            · exact hxo c hcm
            · exact ho c (List.mem_of_mem_drop hcm)
          · intro j
            simp only [cells_agg]
            rw [getElem_splice (by omega), hzl]
        · cases hs
      · rename_i hna
        split at hs
        · cases hs
        · rename_i hnx
          split at hs
          · rename_i hz
            simp only [Bool.and_eq_true, beq_iff_eq] at hz
            obtain ⟨⟨rfl, rfl⟩, rfl⟩ := hz
            cases hs
            refine ⟨by omega, xv, by simpa using hxs, fun C' w' hx' => Rep.ext hx' _ _ hx, fun j => ?_⟩
            have hvl : v.cells.toList.length = 1 := by simpa using hsz
            have hxl' : xv.cells.toList.length = 1 := by simpa using hxs
            simp only [Nat.not_lt_zero, if_false, Nat.zero_add, Nat.sub_zero]
            split
            · rfl
            · rw [List.getElem?_eq_none (by omega), List.getElem?_eq_none (by omega)]
          · cases hs
    · cases hs

theorem alike_cells {arr arr' : Array Value} {e : TypeId} {fr : Nat × Nat} (h : arr'.size = arr.size) : Alike (Obj.cells arr e fr) (Obj.cells arr' e fr) :=
  fun a e' fr' he => by cases he; exact ⟨arr', rfl, h⟩

/-- A store into an element of a block of one's own. -/
theorem run_store_core {P : Program} {C : Cx} {w : World} {t : TypeId} {b i off sz : Nat} {arr : Array Value} {el : TypeId} {es : List AV} {e e' x : AV} {xv : Value} (h2 : w.heap[b]? = some (Obj.cells arr el (0, 0))) (h3 : es.length * sz ≤ arr.size)
    (h4 : Elems C w b (fun _ => True) sz 0 es) (he : es[i]? = some e) (hs : storeIn P t e off sz x = some e') (hx : Rep C w x xv) :
    ∃ (w' : World) (arr' : Array Value), (storeVar t ⟨b, i * sz + off, none⟩ xv).run P w = .ok () w' ∧ Wrote w w' b (Obj.cells arr' el (0, 0)) ∧ arr'.size = arr.size ∧ (Ext C w C w' → Elems C w' b (fun _ => True) sz 0 (es.set i e')) := by
  obtain ⟨v, hv1, hv2, hv3⟩ := h4.get he
  obtain ⟨n, hn, hxs, hxo, hle, v', hv'1, hv'2, hv'3⟩ := storeIn_ok hs hv1 hx hv2
  have hi : i < es.length := (List.getElem?_eq_some_iff.1 he).1
  have him := mul_lt_of_lt (sz := sz) hi
  simp only [Nat.zero_add] at hv3
  obtain ⟨w', arr', g1, g2, g3, g4, g5⟩ := run_stores (P := P) xv.cells.toList 0 w b (i * sz + off) arr el h2 (by simp [hxs]; omega) hxo
  simp only [Nat.add_zero, Array.length_toList, hxs] at g4 g5
  refine ⟨w', arr', ?_, g2, g3, fun hE => ?_⟩
  · simp only [storeVar, Sem.run_bind, run_size hn, Result.andThen_ok]
    simp [hxs, g1]
  · refine Elems.mk fun k ek hk => ?_
    rw [List.getElem?_set] at hk
    have hcell : ∀ o, w'.cell? ⟨b, o, none⟩ = arr'[o]? := fun o => cell_of_arr g2.at_
    have hcell0 : ∀ o, w.cell? ⟨b, o, none⟩ = arr[o]? := fun o => cell_of_arr h2
    by_cases hki : i = k
    · subst hki
      simp only [if_true, hi] at hk
      cases hk
      refine ⟨v', hv'2 _ _ hE, hv'1, fun j z hz => ?_⟩
      have hj : j < sz := by rw [← hv'1]; simpa using (List.getElem?_eq_some_iff.1 hz).1
      rw [hv'3] at hz
      simp only [Nat.zero_add]
      by_cases hj1 : j < off
      · rw [if_pos hj1] at hz
        obtain ⟨_, a2, a3⟩ := hv3 j z hz
        refine ⟨trivial, ?_, a3⟩
        rw [hcell, g5 _ (.inl (by omega)), ← hcell0]; exact a2
      · rw [if_neg hj1] at hz
        by_cases hj2 : j < off + n
        · rw [if_pos hj2] at hz
          refine ⟨trivial, ?_, hxo z (List.mem_of_getElem? hz)⟩
          have := g4 (j - off) z hz
          rw [hcell, show i * sz + j = i * sz + off + (j - off) by omega]; exact this
        · rw [if_neg hj2] at hz
          obtain ⟨_, a2, a3⟩ := hv3 j z hz
          refine ⟨trivial, ?_, a3⟩
          rw [hcell, g5 _ (.inr (by omega)), ← hcell0]; exact a2
    · simp only [hki, if_false] at hk
      obtain ⟨u, hu1, hu2, hu3⟩ := h4.get hk
      refine ⟨u, Rep.ext hE _ _ hu1, hu2, fun j z hz => ?_⟩
      have hj : j < sz := by rw [← hu2]; simpa using (List.getElem?_eq_some_iff.1 hz).1
      obtain ⟨_, a2, a3⟩ := hu3 j z hz
      simp only [Nat.zero_add] at a2 ⊢
      refine ⟨trivial, ?_, a3⟩
      have hout : k * sz + j < i * sz + off ∨ i * sz + off + n ≤ k * sz + j := by
        rcases Nat.lt_or_gt_of_ne hki with h | h
        · have := mul_lt_of_lt (sz := sz) h; omega
        · have := mul_lt_of_lt (sz := sz) h; omega
      rw [hcell, g5 _ hout, ← hcell0]; exact a2

/-- A store into a variable, or into an element of a slice, of one's own. -/
theorem run_store_elem {P : Program} {C : Cx} {w : World} {m : AMem} {t : TypeId} {id i off sz : Nat} {es : List AV} {e e' x : AV} {xv : Value} (hS : Sim C w m) (hro : m.ro ≤ id)
    (hb : m.blks[id]? = some (.arr es sz)) (he : es[i]? = some e) (hs : storeIn P t e off sz x = some e') (hx : Rep C w x xv) {bi : BI} (hC : C.blk id = some bi) :
    ∃ w', (storeVar t ⟨bi.b, i * bi.sz + off, none⟩ xv).run P w = .ok () w' ∧ Post C w m C w' { m with blks := m.blks.set id (.arr (es.set i e') sz) } := by
  obtain ⟨b, arr, el, h1, h2, h3, h4⟩ := hS.blk id _ hb
  rw [hC] at h1; cases h1
  obtain ⟨w', arr', g1, g2, g3, g4⟩ := run_store_core (P := P) h2 (Nat.le_of_eq h3.symm) h4 he hs hx
  exact ⟨w', g1, post_wrote hS hC hb (by simp) hro g2 h2 (alike_cells g3) fun hE => ⟨b, arr', el, by rw [hC, List.length_set], g2.at_, by rw [g3, List.length_set, h3], g4 hE⟩⟩

theorem run_store_vec {P : Program} {C : Cx} {w : World} {m : AMem} {t : TypeId} {id i off sz : Nat} {es : List AV} {e e' x : AV} {xv : Value} (hS : Sim C w m) (hro : m.ro ≤ id)
    (hb : m.blks[id]? = some (.vec es sz)) (he : es[i]? = some e) (hs : storeIn P t e off sz x = some e') (hx : Rep C w x xv) {bi : BI} (hC : C.blk id = some bi) :
    ∃ w', (storeVar t ⟨bi.b, i * bi.sz + off, none⟩ xv).run P w = .ok () w' ∧ Post C w m C w' { m with blks := m.blks.set id (.vec (es.set i e') sz) } := by
  obtain ⟨b, cnt, arr, el, h1, h2, h3, h4, h4', h5⟩ := hS.blk id _ hb
  rw [hC] at h1; cases h1
  obtain ⟨w', arr', g1, g2, g3, g4⟩ := run_store_core (P := P) h2 (Nat.le_trans (Nat.mul_le_mul_right _ h3) h4) h5 he hs hx
  exact ⟨w', g1, post_wrote hS hC hb (by simp) hro g2 h2 (alike_cells g3) fun hE => ⟨b, cnt, arr', el, hC, g2.at_, by rw [List.length_set]; exact h3, by rw [g3]; exact h4, h4', g4 hE⟩⟩

/-- A new variable that holds x. -/
theorem run_newVar {P : Program} {C : Cx} {w : World} {m : AMem} {id : Nat} {x : AV} {xv : Value} (elem : TypeId) (hS : Sim C w m) (hid : m.blks[id]? = some .free) (hro : m.ro ≤ id) (hp : x.plain = true) (hx : Rep C w x xv) :
    ∃ w', (newVar elem xv).run P w = .ok ⟨w.heap.size, 0, none⟩ w' ∧
      Post C w m (C.setBlk id ⟨w.heap.size, x.cells.length, 1⟩) w' { m with blks := m.blks.set id (.arr [x] x.cells.length) } := by
  obtain ⟨hr, ho⟩ := rep_cells hp hx
  have hg := grew_alloc w (Obj.cells xv.cells elem)
  refine ⟨w.alloc (Obj.cells xv.cells elem), by simp [newVar, newRow], post_new hS hid hro hg fun hE => ?_⟩
  refine ⟨w.heap.size, xv.cells, elem, by simp [Cx.setBlk], hg.at_, by simp [hr.length], ?_⟩
  simp only [Elems]
  refine ⟨⟨xv, Rep.ext hE _ _ hx, by simp [hr.length], fun j z hz => ⟨trivial, ?_, ho z (List.mem_of_getElem? hz)⟩⟩, trivial⟩
  rw [Nat.zero_add, cell_of_arr hg.at_]
  simpa using hz

end Go.Den
