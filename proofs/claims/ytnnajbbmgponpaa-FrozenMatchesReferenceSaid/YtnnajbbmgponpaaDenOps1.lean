/-
  What the model's operations on variables, fields, elements and aggregates come to where abstract values stand for their operands. Conditions: as each statement says.
-/
import Derived.Test.YtnnajbbmgponpaaDenStep
namespace Go.Den

section
variable {P : Program} {w : World}

theorem run_und {t : TypeId} {d : TypeDesc} (h : P.underlying t = some d) : (underlying t).run P w = .ok d w := by simp [underlying, h]

theorem run_isAgg {t : TypeId} {b : Bool} (h : aggOf P t = some b) : (isAgg t).run P w = .ok b w := by
  unfold aggOf at h
  cases hu : P.underlying t with
  | none => simp [hu] at h
  | some d => rw [hu] at h; simp only [isAgg, Sem.run_bind, run_und hu, Result.andThen_ok]; cases d <;> simp_all

theorem run_size {t : TypeId} {n : Nat} (h : sizeA P t = some n) : (sizeOf t).run P w = .ok n w := by
  unfold sizeA at h
  cases hi : P.info? t with
  | none => simp [hi] at h
  | some i => simp [hi] at h; simp [sizeOf, typeInfo, hi, h]

theorem run_zero {t : TypeId} {z : AV} (h : zeroA P t = some z) : ∃ zv, z = .ofV zv ∧ (zeroValue t).run P w = .ok zv w := by
  unfold zeroA at h
  cases hi : P.info? t with
  | none => simp [hi] at h
  | some i =>
    cases hz : i.zero with
    | none => simp [hi, hz] at h
    | some zv => simp [hi, hz] at h; exact ⟨zv, h.symm, by simp [zeroValue, typeInfo, hi, hz]⟩

theorem add_none (b o n : Nat) : (Addr.mk b o none).add n = ⟨b, o + n, none⟩ := by
  unfold Addr.add; split
  · rename_i h; subst h; rfl
  · rfl

theorem Stored.sub {p : Nat → Prop} {b o : Nat} {vs : List Value} (h : Stored p w b o vs) (k n : Nat) : Stored p w b (o + k) ((vs.drop k).take n) := by
  intro j x hx
  rw [List.getElem?_take] at hx
  split at hx
  · rw [List.getElem?_drop] at hx
    have := h (k + j) x hx
    rw [← Nat.add_assoc] at this
    exact this
  · cases hx

theorem stored_cells {p : Nat → Prop} {b o : Nat} {vs : List Value} (h : Stored p w b o vs) : ∀ c ∈ vs, c.oneCell' = true := by
  intro c hc
  obtain ⟨j, hj⟩ := List.getElem?_of_mem hc
  exact (h j c hj).2.2

/-- A load of a part. -/
theorem run_part {C : Cx} {t : TypeId} {p : Nat → Prop} {b o off : Nat} {cs : List AV} {ys : List Value} {x : AV} (hr : Reps C w cs ys) (hs : Stored p w b o ys) (hp : partA P t cs off = some x) :
    ∃ v, (loadVar t ⟨b, o + off, none⟩).run P w = .ok v w ∧ Rep C w x v ∧ Stored p w b (o + off) v.cells.toList := by
  unfold partA at hp
  cases ha : aggOf P t with
  | none => simp [ha] at hp
  | some g =>
    cases hn : sizeA P t with
    | none => cases g <;> simp [ha, hn] at hp
    | some n =>
      rw [ha, hn] at hp
      cases g with
      | true =>
        simp only at hp
        split at hp
        · rename_i hle
          cases hp
          have hl := hr.length
          have hst := hs.sub off n
          have hload : (loadCells ⟨b, o + off, none⟩ n).run P w = .ok ((ys.drop off).take n).toArray w := by
            have := run_loadCells_list (P := P) (w := w) ⟨b, o + off, none⟩ ((ys.drop off).take n) (fun j v hv => by rw [add_none]; exact (hst j v hv).2.1)
            simpa [show min n (ys.length - off) = n by omega] using this
          refine ⟨.agg ((ys.drop off).take n).toArray, ?_, ?_, ?_⟩
          · simp [loadVar, run_isAgg ha, run_size hn, hload]
          · simp only [Rep]
            exact ⟨_, rfl, by simpa using (hr.drop off).take n, by simpa using stored_cells hst⟩
          · simpa [Value.cells] using hst
        · cases hp
      | false =>
        match n, hp with
        | 1, hp =>
          simp only at hp
          obtain ⟨y, hy, hry⟩ := hr.get hp
          obtain ⟨h1, h2, h3⟩ := hs off y hy
          refine ⟨y, by simp [loadVar, run_isAgg ha, run_load, h2], hry, ?_⟩
          have hc : y.cells = #[y] := by cases y <;> first | rfl | simp [Value.oneCell'] at h3
          rw [hc]
          intro j z hz
          cases j with
          | zero => simp at hz; subst hz; exact ⟨h1, h2, h3⟩
          | succ j => simp at hz

/-- A part taken out of an aggregate's own cells. -/
theorem run_partV {C : Cx} {t : TypeId} {off : Nat} {cs : List AV} {ys : Array Value} {x : AV} (hr : Reps C w cs ys.toList) (ho : ∀ c ∈ ys.toList, c.oneCell' = true) (hp : partA P t cs off = some x) :
    ∃ v, (part t ys off).run P w = .ok v w ∧ Rep C w x v := by
  unfold partA at hp
  cases ha : aggOf P t with
  | none => simp [ha] at hp
  | some g =>
    cases hn : sizeA P t with
    | none => cases g <;> simp [ha, hn] at hp
    | some n =>
      rw [ha, hn] at hp
      cases g with
      | true =>
        simp only at hp
        split at hp
        · rename_i hle
          cases hp
          refine ⟨.agg (ys.extract off (off + n)), by simp [part, run_isAgg ha, run_size hn], ?_⟩
          simp only [Rep]
          have e : (ys.extract off (off + n)).toList = (ys.toList.drop off).take n := by
            simp [Array.toList_extract]
          exact ⟨_, rfl, by rw [e]; exact (hr.drop off).take n, by rw [e]; exact fun c hc => ho c (List.mem_of_mem_drop (List.mem_of_mem_take hc))⟩
        · cases hp
      | false =>
        match n, hp with
        | 1, hp =>
          simp only at hp
          obtain ⟨y, hy, hry⟩ := hr.get hp
          refine ⟨y, ?_, hry⟩
          have : ys[off]? = some y := by simpa using hy
          simp [part, run_isAgg ha, this]

theorem heap_setCell_same' (b o : Nat) (arr : Array Value) (e : TypeId) (v : Value) (hg : w.heap[b]? = some (Obj.cells arr e (0, 0))) :
    (w.setCell ⟨b, o, none⟩ v).heap[b]? = some (Obj.cells (arr.setIfInBounds o v) e (0, 0)) := heap_setCell_same w b o arr e v hg

theorem cell_of_arr {b o : Nat} {arr : Array Value} {e : TypeId} {fr : Nat × Nat} (hg : w.heap[b]? = some (Obj.cells arr e fr)) : w.cell? ⟨b, o, none⟩ = arr[o]? := cell_of_row w b o arr e fr hg

/-- A row of stores into one block. -/
theorem run_stores : ∀ (vs : List Value) (i : Nat) (w : World) (b o : Nat) (arr : Array Value) (e : TypeId), w.heap[b]? = some (Obj.cells arr e (0, 0)) → o + i + vs.length ≤ arr.size → (∀ c ∈ vs, c.oneCell' = true) →
    ∃ (w' : World) (arr' : Array Value), (storeCells ⟨b, o, none⟩ vs i).run P w = .ok () w' ∧ Wrote w w' b (Obj.cells arr' e (0, 0)) ∧ arr'.size = arr.size ∧
      (∀ j x, vs[j]? = some x → arr'[o + i + j]? = some x) ∧ (∀ j, j < o + i ∨ o + i + vs.length ≤ j → arr'[j]? = arr[j]?)
  | [], i, w, b, o, arr, e, hb, _, _ => ⟨w, arr, rfl, ⟨hb, fun _ _ => rfl, rfl, rfl, rfl, rfl⟩, rfl, fun j x hx => by simp at hx, fun _ _ => rfl⟩
  | v :: vs, i, w, b, o, arr, e, hb, hle, hc => by
    simp only [List.length_cons] at hle
    have hv : v.oneCell' = true := hc v (by simp)
    have hlt : o + i < arr.size := by omega
    have hb1 := heap_setCell_same' (w := w) b (o + i) arr e v hb
    obtain ⟨w', arr', h1, h2, h3, h4, h5⟩ := run_stores vs (i + 1) (w.setCell ⟨b, o + i, none⟩ v) b o (arr.setIfInBounds (o + i) v) e hb1 (by simp; omega) (fun c h => hc c (by simp [h]))
    refine ⟨w', arr', ?_, ⟨h2.at_, fun k hk => (h2.other k hk).trans (heap_setCell_other w _ k v hk), ?_, ?_, ?_, ?_⟩, by simpa using h3, ?_, ?_⟩
    · have hcell : w.cell? ⟨b, o + i, none⟩ = some arr[o + i] := by rw [cell_of_arr hb, Array.getElem?_eq_getElem hlt]
      have hfr : w.frozen? ⟨b, o + i, none⟩ = false := frozen_of_row w b (o + i) arr e hb
      simp only [storeCells, Sem.run_bind, add_none, run_store P w _ v _ hv, hcell, hfr]
      simpa using h1
    · simpa using h2.size
    · exact h2.os
    · exact h2.tape
    · exact h2.output
    · intro j x hx
      cases j with
      | zero =>
        simp at hx; subst hx
        have := h5 (o + i) (.inl (by omega))
        simpa [hlt] using this
      | succ j =>
        simp at hx
        have := h4 j x hx
        rw [show o + i + (j + 1) = o + (i + 1) + j by omega]; exact this
    · intro j hj
      simp only [List.length_cons] at hj
      have := h5 j (by omega)
      rw [this, Array.getElem?_setIfInBounds_ne (by omega)]
end
end Go.Den
