/-
  Aggregates and slices that are built; new slices; appends; copies. Conditions: as each statement says.
-/
import Derived.Test.YtnnajbbmgponpaaDenOps4
import Derived.Laws.Tables
import Derived.Laws.MakeOwn
import Derived.Laws.AppendOwn
namespace Go.Den
section
variable {P : Program} {C : Cx} {w : World}

theorem run_placesA : ∀ (fs : List Field) (places : List (Nat × Nat)), placesA P fs = some places →
    (fs.mapM fun f => Prod.mk f.offset <$> sizeOf f.type).run P w = .ok places w
  | [], places, h => by simp [placesA] at h; subst h; simp
  | f :: fs, places, h => by
    simp only [placesA] at h
    cases hs : sizeA P f.type with
    | none => simp [hs] at h
    | some s =>
      cases hr : placesA P fs with
      | none => simp [hs, hr] at h
      | some rest =>
        simp [hs, hr] at h
        subst h
        simp [List.mapM_cons, run_size hs, run_placesA fs rest hr]

/-- Parts and the values that they stand for. -/
def RepP (C : Cx) (w : World) (ps : List (Nat × AV)) (qs : List (Nat × Value)) : Prop := ps.map (·.1) = qs.map (·.1) ∧ Reps C w (ps.map (·.2)) (qs.map (·.2))

theorem build_ok {t : TypeId} {ps : List (Nat × AV)} {qs : Array (Nat × Value)} {r : AV} (h : buildReq P t ps = some (.val r)) (hp : RepP C w ps qs.toList) : VOk P (Instr.build t qs) w fun v w' => w' = w ∧ Rep C w r v := by
  unfold buildReq at h
  split at h
  · rename_i fs z hu hz
    split at h
    · rename_i pl hpl
      split at h
      · rename_i hzp
        rw [Option.map_eq_some_iff] at h
        obtain ⟨cs, hcs, e⟩ := h
        cases e
        obtain ⟨zv, rfl, hzv⟩ := run_zero (w := w) hz
        obtain ⟨hr, ho⟩ := rep_cells hzp (rep_ofV C w zv)
        obtain ⟨cells', h1, h2, h3, _⟩ := fill_ok hcs hp.1 hp.2 hr ho
        refine .of (v := .agg cells') (w' := w) ?_ ⟨rfl, by simp only [Rep]; exact ⟨_, rfl, h2, h3⟩⟩
        have h1' : Instr.fill (fun x => pl[x]?) zv.cells qs.toList = some cells' := h1
        simp [Instr.build, run_und hu, hzv, Array.mapM_eq_mapM_toList, run_placesA (w := w) _ _ hpl, h1']
      · cases h
    · cases h
  · rename_i n el z hu hz
    split at h
    · rename_i sz hsz
      split at h
      · rename_i hzp
        rw [Option.map_eq_some_iff] at h
        obtain ⟨cs, hcs, e⟩ := h
        cases e
        obtain ⟨zv, rfl, hzv⟩ := run_zero (w := w) hz
        obtain ⟨hr, ho⟩ := rep_cells hzp (rep_ofV C w zv)
        obtain ⟨cells', h1, h2, h3, _⟩ := fill_ok hcs hp.1 hp.2 hr ho
        refine .of (v := .agg cells') (w' := w) ?_ ⟨rfl, by simp only [Rep]; exact ⟨_, rfl, h2, h3⟩⟩
        simp [Instr.build, run_und hu, hzv, run_size hsz, h1]
      · cases h
    · cases h
  · cases h

/-! ### Rows of elements, as cells -/
/-- The cells of a list of element values. -/
def flat (vs : List Value) : List Value := vs.flatMap fun v => v.cells.toList

theorem flat_length {vs : List Value} {sz : Nat} (h : ∀ v ∈ vs, v.cells.size = sz) : (flat vs).length = vs.length * sz := by
  induction vs with
  | nil => simp [flat]
  | cons v vs ih =>
    have := ih fun u hu => h u (by simp [hu])
    simp only [flat, List.flatMap_cons, List.length_append, List.length_cons] at this ⊢
    rw [this, Nat.add_mul, Nat.one_mul, Array.length_toList, h v (by simp)]; omega

theorem flat_get {vs : List Value} {sz : Nat} (h : ∀ v ∈ vs, v.cells.size = sz) {i j : Nat} {v : Value} (hv : vs[i]? = some v) (hj : j < sz) : (flat vs)[i * sz + j]? = v.cells.toList[j]? := by
  induction vs generalizing i with
  | nil => simp at hv
  | cons u vs ih =>
    have hu : u.cells.toList.length = sz := by simpa using h u (by simp)
    simp only [flat, List.flatMap_cons]
    cases i with
    | zero => simp at hv; subst hv; rw [List.getElem?_append_left (by omega)]; simp
    | succ i =>
      simp at hv
      rw [List.getElem?_append_right (by rw [hu, Nat.succ_mul]; omega), hu, Nat.succ_mul, show i * sz + sz + j - sz = i * sz + j by omega]
      exact ih (fun x hx => h x (by simp [hx])) hv

/-- Element values, and that they stand for abstract elements of sz cells each. -/
structure Row (C : Cx) (w : World) (sz : Nat) (es : List AV) (vs : List Value) : Prop where
  reps : Reps C w es vs
  size : ∀ v ∈ vs, v.cells.size = sz
  one : ∀ v ∈ vs, ∀ c ∈ v.cells.toList, c.oneCell' = true

theorem Row.cells_one {sz : Nat} {es : List AV} {vs : List Value} (h : Row C w sz es vs) : ∀ c ∈ flat vs, c.oneCell' = true := by
  intro c hc
  simp only [flat, List.mem_flatMap] at hc
  obtain ⟨v, hv, hc⟩ := hc
  exact h.one v hv c hc

theorem Row.len {sz : Nat} {es : List AV} {vs : List Value} (h : Row C w sz es vs) : (flat vs).length = es.length * sz := by
  rw [flat_length h.size, h.reps.length]

theorem Row.ext {C' : Cx} {w' : World} {sz : Nat} {es : List AV} {vs : List Value} (h : Row C w sz es vs) (hE : Ext C w C' w') : Row C' w' sz es vs := ⟨Reps.ext hE _ _ h.reps, h.size, h.one⟩

/-- Elements that lie in cells: their values. -/
theorem Elems.row {b sz : Nat} {p : Nat → Prop} : ∀ {es : List AV} {off : Nat}, Elems C w b p sz off es → ∃ vs, Row C w sz es vs ∧ Stored p w b off (flat vs)
  | [], off, _ => ⟨[], ⟨by simp only [Reps], by simp, by simp⟩, fun j x hx => by simp [flat] at hx⟩
  | e :: es, off, h => by
    simp only [Elems] at h
    obtain ⟨⟨v, h1, h2, h3⟩, h4⟩ := h
    obtain ⟨vs, hr, hs⟩ := Elems.row (b := b) (sz := sz) h4
    refine ⟨v :: vs, ⟨by simp only [Reps]; exact ⟨v, vs, rfl, h1, hr.reps⟩, ?_, ?_⟩, ?_⟩
    · intro u hu
      simp only [List.mem_cons] at hu
      rcases hu with rfl | hu
      · exact h2
      · exact hr.size u hu
    · intro u hu
      simp only [List.mem_cons] at hu
      rcases hu with rfl | hu
      · exact stored_cells h3
      · exact hr.one u hu
    · intro j x hx
      simp only [flat, List.flatMap_cons] at hx
      by_cases hj : j < sz
      · rw [List.getElem?_append_left (by simpa [h2] using hj)] at hx
        exact h3 j x hx
      · rw [List.getElem?_append_right (by simpa [h2] using hj)] at hx
        have := hs (j - v.cells.toList.length) x hx
        rw [Array.length_toList, h2, show off + sz + (j - sz) = off + j by omega] at this
        exact this

/-- .. and back. -/
theorem Row.elems {b sz off : Nat} {p : Nat → Prop} {es : List AV} {vs : List Value} (h : Row C w sz es vs) (hs : Stored p w b off (flat vs)) : Elems C w b p sz off es :=
  Elems.mk fun i e he => by
    obtain ⟨v, hv, hr⟩ := h.reps.get he
    have hsz := h.size v (List.mem_of_getElem? hv)
    refine ⟨v, hr, hsz, fun j x hx => ?_⟩
    have hj : j < sz := by rw [← hsz]; simpa using (List.getElem?_eq_some_iff.1 hx).1
    have := hs (i * sz + j) x (by rw [flat_get h.size hv hj]; exact hx)
    rw [← Nat.add_assoc] at this
    exact this

theorem Row.append {sz : Nat} {es fs : List AV} {vs us : List Value} (h : Row C w sz es vs) (k : Row C w sz fs us) : Row C w sz (es ++ fs) (vs ++ us) :=
  ⟨h.reps.append k.reps, fun v hv => by simp only [List.mem_append] at hv; exact hv.elim (h.size v) (k.size v), fun v hv => by simp only [List.mem_append] at hv; exact hv.elim (h.one v) (k.one v)⟩

theorem flat_append (vs us : List Value) : flat (vs ++ us) = flat vs ++ flat us := by simp [flat]

theorem Row.replicate {sz n : Nat} {z : AV} {v : Value} (hz : Rep C w z v) (hp : z.plain = true) (hs : z.cells.length = sz) : Row C w sz (List.replicate n z) (List.replicate n v) := by
  obtain ⟨hr, ho⟩ := rep_cells hp hz
  refine ⟨Reps.replicate hz n, fun u hu => ?_, fun u hu => ?_⟩
  · obtain rfl := List.eq_of_mem_replicate hu
    rw [← hs, hr.length]; simp
  · obtain rfl := List.eq_of_mem_replicate hu
    exact ho

/-- Cells that a row of elements makes, repeated from one element's. -/
theorem madeCells_flat {v : Value} {sz n : Nat} (hs : v.cells.size = sz) (h0 : sz ≠ 0) : (madeCells v.cells (n * sz)).toList = flat (List.replicate n v) := by
  apply List.ext_getElem?
  intro k
  have hlen : (flat (List.replicate n v)).length = n * sz := by rw [flat_length (sz := sz) (fun u hu => by rw [List.eq_of_mem_replicate hu]; exact hs)]; simp
  by_cases hk : k < n * sz
  · have hq : k / sz < n := Nat.div_lt_of_lt_mul (by rw [Nat.mul_comm]; exact hk)
    have hm : k % sz < sz := Nat.mod_lt _ (by omega)
    have e : k = k / sz * sz + k % sz := by rw [Nat.mul_comm]; exact (Nat.div_add_mod k sz).symm
    have hf := flat_get (vs := List.replicate n v) (sz := sz) (fun u hu => by rw [List.eq_of_mem_replicate hu]; exact hs) (i := k / sz) (j := k % sz) (v := v) (by simp [hq]) hm
    rw [← e] at hf
    rw [hf]
    have hlt : k < (madeCells v.cells (n * sz)).toList.length := by simp [size_madeCells]; exact hk
    rw [List.getElem?_eq_getElem hlt]
    simp only [madeCells, Array.toList_map, List.getElem_map, Array.toList_range, List.getElem_range, hs]
    have hmm : k % sz < v.cells.size := by omega
    rw [getElem!_pos v.cells (k % sz) hmm, List.getElem?_eq_getElem (by simpa using hmm)]
    simp
  · rw [List.getElem?_eq_none (by simp [size_madeCells]; omega), List.getElem?_eq_none (by omega)]

theorem flat_set {sz : Nat} {y : Value} (hy : y.cells.size = sz) : ∀ {vs : List Value} {i : Nat}, (∀ v ∈ vs, v.cells.size = sz) → i < vs.length →
    flat (vs.set i y) = (flat vs).take (i * sz) ++ y.cells.toList ++ (flat vs).drop (i * sz + sz)
  | [], _, _, h => by simp at h
  | v :: vs, 0, hs, _ => by
    have hv : v.cells.toList.length = sz := by simpa using hs v (by simp)
    simp only [flat, List.set_cons_zero, List.flatMap_cons, Nat.zero_mul, List.take_zero, List.nil_append, Nat.zero_add]
    rw [List.drop_append_of_le_length (by omega), List.drop_eq_nil_of_le (by omega), List.nil_append]
  | v :: vs, i + 1, hs, h => by
    have hv : v.cells.toList.length = sz := by simpa using hs v (by simp)
    have ih := flat_set hy (vs := vs) (i := i) (fun u hu => hs u (by simp [hu])) (by simpa using h)
    simp only [flat] at ih
    simp only [flat, List.set_cons_succ, List.flatMap_cons]
    rw [ih]
    generalize List.flatMap (fun v => v.cells.toList) vs = F
    have hm : (i + 1) * sz = sz + i * sz := by rw [Nat.succ_mul]; omega
    have e1 : (v.cells.toList ++ F).take ((i + 1) * sz) = v.cells.toList ++ F.take (i * sz) := by
      rw [List.take_append, List.take_of_length_le (l := v.cells.toList) (by omega), hv, hm]; congr 2; omega
    have e2 : (v.cells.toList ++ F).drop ((i + 1) * sz + sz) = F.drop (i * sz + sz) := by
      rw [List.drop_append, List.drop_eq_nil_of_le (as := v.cells.toList) (by omega), hv, hm, List.nil_append]; congr 1; omega
    rw [e1, e2]
    simp

theorem Row.set {sz i : Nat} {es : List AV} {vs : List Value} {x : AV} {y : Value} (h : Row C w sz es vs) (hp : x.plain = true) (hs : x.cells.length = sz) (hx : Rep C w x y) : Row C w sz (es.set i x) (vs.set i y) := by
  obtain ⟨hr, ho⟩ := rep_cells hp hx
  have hy : y.cells.size = sz := by rw [← hs, hr.length]; simp
  refine ⟨h.reps.set i hx, fun v hv => ?_, fun v hv => ?_⟩
  · rcases List.mem_or_eq_of_mem_set hv with h1 | rfl
    · exact h.size v h1
    · exact hy
  · rcases List.mem_or_eq_of_mem_set hv with h1 | rfl
    · exact h.one v h1
    · exact ho

theorem fill_flat {sz : Nat} : ∀ {ps : List (Nat × AV)} {qs : List (Nat × Value)} {es es' : List AV} {vs : List Value} {cells : Array Value},
    setAll sz es ps = some es' → ps.map (·.1) = qs.map (·.1) → Reps C w (ps.map (·.2)) (qs.map (·.2)) → Row C w sz es vs → cells.toList = flat vs →
    ∃ cells' vs', Instr.fill (fun i => some (i * sz, sz)) cells qs = some cells' ∧ cells'.toList = flat vs' ∧ Row C w sz es' vs'
  | [], qs, es, es', vs, cells, h, hk, _, hr, hc => by
    cases h
    cases qs with
    | nil => exact ⟨cells, vs, rfl, hc, hr⟩
    | cons q qs => simp at hk
  | (i, x) :: ps, [], _, _, _, _, h, hk, _, _, _ => by simp at hk
  | (i, x) :: ps, (j, y) :: qs, es, es', vs, cells, h, hk, hv, hr, hc => by
    simp only [List.map_cons, List.cons.injEq] at hk
    obtain ⟨rfl, hk⟩ := hk
    simp only [List.map_cons, Reps] at hv
    obtain ⟨y', ys', e, hx, hv⟩ := hv
    cases e
    simp only [setAll] at h
    split at h
    · rename_i hcc
      simp only [Bool.and_eq_true, beq_iff_eq, decide_eq_true_eq] at hcc
      obtain ⟨⟨h1, h2⟩, h3⟩ := hcc
      obtain ⟨hxr, hxo⟩ := rep_cells h1 hx
      have hs : y.cells.size = sz := by rw [← h2, hxr.length]; simp
      have hlen := hr.len
      have hclen : cells.size = es.length * sz := by rw [← Array.length_toList, hc, hlen]
      have him := mul_lt_of_lt (sz := sz) h3
      have hf := fold_set y.cells.toList 0 cells (i * sz) (by simp; omega)
      simp only [Nat.add_zero, Array.length_toList, hs, hc] at hf
      rw [← flat_set hs hr.size (by rw [← hr.reps.length]; exact h3)] at hf
      obtain ⟨cells', vs', g1, g2, g3⟩ := fill_flat (cells := y.cells.toList.zipIdx.foldl (fun cs (c, j) => cs.setIfInBounds (i * sz + j) c) cells) h hk hv (hr.set (i := i) h1 h2 hx) hf
      refine ⟨cells', vs', ?_, g2, g3⟩
      simp only [Instr.fill]
      rw [if_neg (by rw [hs]; simp; omega)]
      have e : y.cells.zipIdx.foldl (fun cs (x : Value × Nat) => cs.setIfInBounds (i * sz + x.2) x.1) cells = y.cells.toList.zipIdx.foldl (fun cs (c, j) => cs.setIfInBounds (i * sz + j) c) cells := by
        rw [← Array.foldl_toList]; simp
      rw [e]; exact g1
    · cases h

/-- A new block of cells that are never written again, and a slice over the whole of it. -/
theorem rep_new_imm {m : AMem} {sz n cap : Nat} {es : List AV} {vs : List Value} {cells : Array Value} {e : TypeId} {w' : World} {c : Cap} (hS : Sim C w m) (hr : Row C w sz es vs) (hc : ∀ (j : Nat) (x : Value), (flat vs)[j]? = some x → cells[j]? = some x)
    (hg : Grew w w' (Obj.cells cells e (0, 0))) (hn : es.length = n) (hle : n ≤ cap) (hcap : c = .no ∨ (c = .tight ∧ cap = n)) :
    Post C w m (C.addImm fun b _ => b = w.heap.size) w' m ∧ Rep (C.addImm fun b _ => b = w.heap.size) w' (.sl sz es c) (.slice (some ⟨w.heap.size, 0, none⟩) n cap) := by
  have hp := post_imm hS hg
  refine ⟨hp, ?_⟩
  simp only [Rep]
  refine ⟨⟨w.heap.size, 0, none⟩, cap, by rw [hn], by omega, .inl rfl, (hr.ext hp.ext).elems fun j x hx => ⟨.inr rfl, ?_, hr.cells_one x (List.mem_of_getElem? hx)⟩, ?_⟩
  · rw [Nat.zero_add, cell_of_arr hg.at_]; exact hc j x hx
  · rcases hcap with rfl | ⟨rfl, h⟩
    · trivial
    · rw [hn]; exact h

theorem setAll_len {sz : Nat} : ∀ {ps : List (Nat × AV)} {a b : List AV}, setAll sz a ps = some b → b.length = a.length
  | [], a, b, h => by cases h; rfl
  | p :: ps, a, b, h => by
    simp only [setAll] at h
    split at h
    · rw [setAll_len h, List.length_set]
    · cases h

/-- The block that a slice of given elements makes. -/
theorem run_buildSlice {t el : TypeId} {len sz : Nat} {z : AV} {ps : List (Nat × AV)} {qs : Array (Nat × Value)} {es : List AV} (hu : P.underlying t = some (.slice el)) (hsz : sizeA P el = some sz) (hz : zeroA P el = some z)
    (h0 : sz ≠ 0) (h1 : len * sz ≤ 16777216) (h2 : z.cells.length = sz) (h3 : z.plain = true) (hes : setAll sz (List.replicate len z) ps = some es) (hp : RepP C w ps qs.toList) :
    ∃ (cells : Array Value) (vs : List Value), (Instr.buildSlice t len qs).run P w = .ok (.slice (some ⟨w.heap.size, 0, none⟩) len len) (w.alloc (Obj.cells cells el)) ∧ Row C w sz es vs ∧ cells.toList = flat vs ∧ es.length = len := by
  obtain ⟨zv, rfl, hzv⟩ := run_zero (w := w) hz
  have hrow := Row.replicate (n := len) (rep_ofV C w zv) h3 h2
  have hzs : zv.cells.size = sz := by
    obtain ⟨hr, _⟩ := rep_cells h3 (rep_ofV C w zv)
    rw [← h2, hr.length]; simp
  obtain ⟨cells', vs', g1, g2, g3⟩ := fill_flat (cells := madeCells zv.cells (len * sz)) hes hp.1 hp.2 hrow (madeCells_flat hzs h0)
  have hlen : es.length = len := by rw [setAll_len hes]; simp
  refine ⟨cells', vs', ?_, g3, g2, hlen⟩
  simp only [madeCells] at g1
  by_cases hl : len * sz = 0
  · have g1'' : Instr.fill (fun i => some (i * sz, sz)) #[] qs.toList = some cells' := by
      rw [hl] at g1
      simpa [Array.range_zero'] using g1
    simp only [Instr.buildSlice, Sem.run_bind, run_und hu, Result.andThen_ok, run_size hsz]
    rw [if_neg (by omega)]
    simp [hl, newRow, Array.range_zero', g1'']
  · simp only [Instr.buildSlice, Sem.run_bind, run_und hu, Result.andThen_ok, run_size hsz]
    rw [if_neg (by omega)]
    simp [hl, hzv, newRow, g1]

theorem buildSlice_ok {m : AMem} {t : TypeId} {len : Nat} {ps : List (Nat × AV)} {qs : Array (Nat × Value)} {r : AV} (hS : Sim C w m) (h : buildSliceReq P t len ps = some (.val r)) (hp : RepP C w ps qs.toList) :
    VOk P (Instr.buildSlice t len qs) w fun v w' => ∃ C', Post C w m C' w' m ∧ Rep C' w' r v := by
  unfold buildSliceReq at h
  split at h
  · rename_i el hu
    split at h
    · rename_i sz z hsz hz
      split at h
      · rename_i hc
        obtain ⟨h0, h1, h2, h3⟩ := hc
        rw [Option.map_eq_some_iff] at h
        obtain ⟨es, hes, e⟩ := h
        cases e
        obtain ⟨cells', vs', g0, g3, g2, hlen⟩ := run_buildSlice (P := P) hu hsz hz h0 h1 h2 h3 hes hp
        obtain ⟨hpost, hrep⟩ := rep_new_imm (c := .tight) (n := len) (cap := len) hS g3 (fun j x hx => by rw [← g2] at hx; simpa using hx) (grew_alloc w (Obj.cells cells' el)) hlen (Nat.le_refl _) (.inr ⟨rfl, rfl⟩)
        exact .of g0 ⟨_, hpost, hrep⟩
      · cases h
    · cases h
  · cases h

/-- A new block that is written and appended to, and the slice over its first elements. -/
theorem rep_new_vec {m : AMem} {sz n cap : Nat} {es : List AV} {vs : List Value} {cells : Array Value} {e : TypeId} {w' : World} (hS : Sim C w m) (hr : Row C w sz es vs) (hc : ∀ (j : Nat) (x : Value), (flat vs)[j]? = some x → cells[j]? = some x)
    (hg : Grew w w' (Obj.cells cells e (0, 0))) (hn : es.length = n) (hle : n ≤ cap) (hfit : cap * sz ≤ cells.size) (hmax : cap ≤ 9223372036854775807) :
    Post C w m (C.setBlk m.blks.length ⟨w.heap.size, sz, cap⟩) w' { m with blks := m.blks ++ [.vec es sz] } ∧ Rep (C.setBlk m.blks.length ⟨w.heap.size, sz, cap⟩) w' (.own sz m.blks.length 0 n) (.slice (some ⟨w.heap.size, 0, none⟩) n cap) := by
  refine ⟨post_push hS hg fun hE => ⟨w.heap.size, cap, cells, e, by simp [Cx.setBlk], hg.at_, by omega, hfit, hmax, (hr.ext hE).elems fun j x hx => ⟨trivial, ?_, hr.cells_one x (List.mem_of_getElem? hx)⟩⟩, ?_⟩
  · rw [Nat.zero_add, cell_of_arr hg.at_]; exact hc j x hx
  · simp only [Rep]
    exact ⟨⟨w.heap.size, sz, cap⟩, cap, by simp [Cx.setBlk], rfl, by simp, hle, by simp⟩

theorem buildVec_ok {m m' : AMem} {t : TypeId} {len : Nat} {ps : List (Nat × AV)} {qs : Array (Nat × Value)} {r : Req} {y : AV} {acc : Acc} (hS : Sim C w m) (h : buildVecReq P t len ps = some r) (hrun : r.run m = some (y, m', acc)) (hp : RepP C w ps qs.toList) :
    VOk P (Instr.buildSlice t len qs) w fun v w' => ∃ C', Post C w m C' w' m' ∧ Rep C' w' y v := by
  unfold buildVecReq at h
  split at h
  · rename_i el hu
    split at h
    · rename_i sz z hsz hz
      split at h
      · rename_i hc
        obtain ⟨h0, h1, h2, h3⟩ := hc
        rw [Option.map_eq_some_iff] at h
        obtain ⟨es, hes, e⟩ := h
        cases e
        simp only [Req.run, Option.map_some, Option.some.injEq, Prod.mk.injEq] at hrun
        obtain ⟨rfl, rfl, _⟩ := hrun
        obtain ⟨cells', vs', g0, g3, g2, hlen⟩ := run_buildSlice (P := P) hu hsz hz h0 h1 h2 h3 hes hp
        have hcs : cells'.size = len * sz := by
          rw [← Array.length_toList, g2, g3.len, hlen]
        obtain ⟨hpost, hrep⟩ := rep_new_vec (n := len) (cap := len) hS g3 (fun j x hx => by rw [← g2] at hx; simpa using hx) (grew_alloc w (Obj.cells cells' el)) hlen (Nat.le_refl _) (by omega) (by have := Nat.le_mul_of_pos_right len (Nat.pos_of_ne_zero h0); omega)
        exact .of g0 ⟨_, hpost, hrep⟩
      · cases h
    · cases h
  · cases h

end
end Go.Den
