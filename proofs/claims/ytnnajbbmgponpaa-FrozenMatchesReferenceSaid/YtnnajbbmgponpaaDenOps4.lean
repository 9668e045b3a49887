/-
  Slicing; aggregates and slices that are built; new slices. Conditions: as each statement says.
-/
import Derived.Test.YtnnajbbmgponpaaDenOps3
namespace Go.Den
section
variable {P : Program} {C : Cx} {w : World}

/-- An optional operand and the value that it stands for. -/
def RepO (C : Cx) (w : World) (a : Option AV) (x : Option Value) : Prop :=
  match a, x with
  | none, none => True
  | some a, some x => Rep C w a x
  | _, _ => False

theorem bnd_of {d i : Int} {a : Option AV} {x : Option Value} (h : bndA d a = some i) (hr : RepO C w a x) : bnd d x = some i := by
  unfold bndA at h
  cases a with
  | none => cases x with
    | none => simpa [bnd] using h
    | some x => simp [RepO] at hr
  | some a => cases x with
    | none => simp [RepO] at hr
    | some x =>
      simp only [RepO] at hr
      split at h
      · rename_i e; cases e
      · rename_i k j e; cases e; simp only [Rep] at hr; subst hr; cases h; rfl
      · cases h

theorem CapOk.drop {c : Cap} {b off sz n cap k : Nat} (h : CapOk C w c ⟨b, off, none⟩ sz n cap) (hk : k ≤ n) (hn : n ≤ cap) : CapOk C w c ⟨b, off + k * sz, none⟩ sz (n - k) (cap - k) := by
  cases c with
  | no => trivial
  | tight => simp only [CapOk] at h ⊢; omega
  | tok t =>
    rcases h with h | ⟨h0, h1, arr, e, h2, h3⟩
    · exact .inl (by omega)
    have e1 : k * sz + (n - k) * sz = n * sz := by rw [← Nat.add_mul]; congr 1; omega
    have e2 : k * sz + (cap - k) * sz = cap * sz := by rw [← Nat.add_mul]; congr 1; omega
    exact .inr ⟨rfl, by rw [h1]; simp only []; rw [Nat.add_assoc, e1], arr, e, h2, by simp only [] at h3 ⊢; omega⟩

/-- A slice of a slice of abstract elements, where the upper bound is its length or leaves its way of being appended to unknown. -/
theorem rep_sub {sz : Nat} {es : List AV} {c c' : Cap} {a : Addr} {cap l h : Nat} (hle : es.length ≤ cap) (hsp : a.spot = none ∨ es = []) (hel : Elems C w a.block (C.imm a.block) sz a.off es) (hc : CapOk C w c a sz es.length cap) (h1 : l ≤ h) (h2 : h ≤ es.length)
    (hcc : c' = .no ∨ (c' = c ∧ h = es.length)) :
    Rep C w (.sl sz ((es.take h).drop l) c') (.slice (if cap = l then some a else some (Addr.add a (l * sz))) (h - l) (cap - l)) := by
  simp only [Rep]
  by_cases hcl : cap = l
  · subst hcl
    have : es.length = cap := by omega
    have h3 : h = cap := by omega
    subst h3
    have hnil : ((es.take h).drop h) = [] := by simp
    refine ⟨a, h - h, by simp, by simp, .inr hnil, ?_, ?_⟩
    · rw [hnil]; simp only [Elems]
    · rcases hcc with rfl | ⟨rfl, _⟩
      · trivial
      · cases c' with
        | no => trivial
        | tight => simp [CapOk]
        | tok t => exact .inl (by simp)
  · rcases hsp with hsp | hnil
    · obtain ⟨b, off, hab⟩ : ∃ b off, a = ⟨b, off, none⟩ := ⟨_, _, addr_eta hsp⟩
      subst hab
      refine ⟨⟨b, off + l * sz, none⟩, cap - l, by simp [hcl, add_none, Nat.min_eq_left h2], by simp; omega, .inl rfl, (hel.take h).drop l, ?_⟩
      rcases hcc with rfl | ⟨rfl, rfl⟩
      · trivial
      · have := hc.drop (k := l) (by omega) hle
        simpa using this
    · subst hnil
      simp only [List.length_nil] at h2 hc
      have hl : l = 0 := by omega
      have hh : h = 0 := by omega
      subst hl; subst hh
      refine ⟨a, cap, by simp [Addr.add], by simp, .inr (by simp), by simp [Elems], ?_⟩
      rcases hcc with rfl | ⟨rfl, _⟩
      · trivial
      · simpa using hc

theorem slice_ok {t : TypeId} {xa r : AV} {loa hia : Option AV} {x : Value} {lo hi : Option Value} (hq : sliceReq P t xa loa hia = some (.val r)) (hx : Rep C w xa x) (hlo : RepO C w loa lo) (hhi : RepO C w hia hi) :
    VOk P (Instr.sliceAt t x lo hi none) w fun v w' => w' = w ∧ Rep C w r v := by
  unfold sliceReq at hq
  split at hq
  · -- a string
    rename_i s hu
    split at hq
    · rename_i l h el eh
      split at hq
      · rename_i hb
        cases hq
        simp only [Rep] at hx; subst hx
        have := run_bounds (P := P) (w := w) (isS := false) (len := s.size) (cap := s.size) (bnd_of el hlo) (bnd_of eh hhi) hb.1 hb.2.1 hb.2.2
        exact vval (by simp [Instr.sliceAt, run_und hu, Instr.slice, this])
      · cases hq
    · cases hq
  · -- nil
    rename_i el hu
    split at hq
    · rename_i l h e1 e2
      split at hq
      · rename_i hb
        cases hq
        obtain ⟨rfl, rfl, hs⟩ := hb
        simp only [Rep] at hx; subst hx
        have := run_bounds (P := P) (w := w) (isS := true) (len := 0) (cap := 0) (bnd_of e1 hlo) (bnd_of e2 hhi) (by omega) (by omega) (by omega)
        obtain ⟨n, hn⟩ := Option.isSome_iff_exists.1 hs
        exact vval (by simp [Instr.sliceAt, run_und hu, Instr.slice, this, run_size hn])
      · cases hq
    · cases hq
  · -- a slice that is not written
    rename_i el sz es c hu
    split at hq
    · rename_i hsz
      simp only [Rep] at hx
      obtain ⟨a0, cap, rfl, hle, hsp, hel, hc⟩ := hx
      split at hq
      · cases hq
        have := run_bounds (P := P) (w := w) (isS := true) (len := es.length) (cap := cap) (l := 0) (h := es.length) (bnd_of (C := C) (w := w) (a := none) rfl hlo) (bnd_of (C := C) (w := w) (a := none) rfl hhi) (by omega) (by omega) (by omega)
        refine .of (w' := w) (v := .slice (if cap = 0 then some a0 else some (Addr.add a0 (0 * sz))) (es.length - 0) (cap - 0)) ?_ ⟨rfl, ?_⟩
        · simp [Instr.sliceAt, run_und hu, Instr.slice, this, run_size hsz]
        · have := rep_sub (l := 0) (h := es.length) (c' := c) hle hsp hel hc (by omega) (by omega) (.inr ⟨rfl, rfl⟩)
          simpa using this
      · rename_i k l
        split at hq
        · rename_i hb
          cases hq
          have := run_bounds (P := P) (w := w) (isS := true) (len := es.length) (cap := cap) (l := l) (h := es.length) (bnd_of (C := C) (w := w) rfl hlo) (bnd_of (C := C) (w := w) (a := none) rfl hhi) (by omega) (by omega) (by omega)
          refine .of (w' := w) (v := .slice (if cap = l.toNat then some a0 else some (Addr.add a0 (l.toNat * sz))) (es.length - l.toNat) (cap - l.toNat)) ?_ ⟨rfl, ?_⟩
          · simp [Instr.sliceAt, run_und hu, Instr.slice, this, run_size hsz]
          · have := rep_sub (l := l.toNat) (h := es.length) (c' := c) hle hsp hel hc (by omega) (by omega) (.inr ⟨rfl, rfl⟩)
            simpa using this
        · cases hq
      · rename_i k h
        split at hq
        · rename_i hb
          cases hq
          have := run_bounds (P := P) (w := w) (isS := true) (len := es.length) (cap := cap) (l := 0) (h := h) (bnd_of (C := C) (w := w) (a := none) rfl hlo) (bnd_of (C := C) (w := w) rfl hhi) (by omega) (by omega) (by omega)
          refine .of (w' := w) (v := .slice (if cap = 0 then some a0 else some (Addr.add a0 (0 * sz))) (h.toNat - 0) (cap - 0)) ?_ ⟨rfl, ?_⟩
          · simp [Instr.sliceAt, run_und hu, Instr.slice, this, run_size hsz]
          · have := rep_sub (l := 0) (h := h.toNat) (c' := .no) hle hsp hel hc (by omega) (by omega) (.inl rfl)
            simpa using this
        · cases hq
      · rename_i k l k' h
        split at hq
        · rename_i hb
          cases hq
          have := run_bounds (P := P) (w := w) (isS := true) (len := es.length) (cap := cap) (l := l) (h := h) (bnd_of (C := C) (w := w) rfl hlo) (bnd_of (C := C) (w := w) rfl hhi) (by omega) (by omega) (by omega)
          refine .of (w' := w) (v := .slice (if cap = l.toNat then some a0 else some (Addr.add a0 (l.toNat * sz))) (h.toNat - l.toNat) (cap - l.toNat)) ?_ ⟨rfl, ?_⟩
          · simp [Instr.sliceAt, run_und hu, Instr.slice, this, run_size hsz]
          · exact rep_sub (l := l.toNat) (h := h.toNat) (c' := .no) hle hsp hel hc (by omega) (by omega) (.inl rfl)
        · cases hq
      · cases hq
    · cases hq
  · -- a slice of one's own
    rename_i el sz id off n hu
    split at hq
    · rename_i hsz
      split at hq
      · rename_i l h e1 e2
        split at hq
        · rename_i hb
          cases hq
          simp only [Rep] at hx
          obtain ⟨bi, cap, hC, rfl, rfl, hle, hcnt⟩ := hx
          have := run_bounds (P := P) (w := w) (isS := true) (len := n) (cap := cap) (bnd_of e1 hlo) (bnd_of e2 hhi) (by omega) (by omega) (by omega)
          refine .of (w' := w) (v := .slice (some ⟨bi.b, (off + l.toNat) * bi.sz, none⟩) (h.toNat - l.toNat) (cap - l.toNat)) ?_ ⟨rfl, ?_⟩
          · by_cases hcl : cap = l.toNat
            · have hl : l = 0 := by omega
              subst hl
              simp at hcl
              subst hcl
              simp [Instr.sliceAt, run_und hu, Instr.slice, this, run_size hsz]
            · simp [Instr.sliceAt, run_und hu, Instr.slice, this, run_size hsz, hcl, add_none, Nat.add_mul]
          · simp only [Rep]
            exact ⟨bi, cap - l.toNat, hC, rfl, rfl, by omega, by omega⟩
        · cases hq
      · cases hq
    · cases hq
  · cases hq

/-! ### What is built -/
theorem fold_set : ∀ (vs : List Value) (i : Nat) (cells : Array Value) (off : Nat), off + i + vs.length ≤ cells.size →
    ((vs.zipIdx i).foldl (fun cs (c, j) => cs.setIfInBounds (off + j) c) cells).toList = cells.toList.take (off + i) ++ vs ++ cells.toList.drop (off + i + vs.length)
  | [], i, cells, off, h => by simp
  | v :: vs, i, cells, off, h => by
    simp only [List.length_cons] at h
    rw [List.zipIdx_cons, List.foldl_cons, fold_set vs (i + 1) _ off (by simp; omega)]
    simp only [Array.toList_setIfInBounds, List.length_cons]
    have hlt : off + i < cells.toList.length := by simp; omega
    rw [List.set_eq_take_append_cons_drop, if_pos hlt]
    have ht : (cells.toList.take (off + i)).length = off + i := by simp; omega
    have e1 : (cells.toList.take (off + i) ++ v :: cells.toList.drop (off + i + 1)).take (off + (i + 1)) = cells.toList.take (off + i) ++ [v] := by
      rw [List.take_append, ht, List.take_of_length_le (by omega)]
      simp [show off + (i + 1) - (off + i) = 1 by omega]
    have e2 : (cells.toList.take (off + i) ++ v :: cells.toList.drop (off + i + 1)).drop (off + (i + 1) + vs.length) = cells.toList.drop (off + i + (vs.length + 1)) := by
      rw [List.drop_append, ht, List.drop_eq_nil_of_le (by omega), show off + (i + 1) + vs.length - (off + i) = vs.length + 1 by omega, List.drop_succ_cons, List.drop_drop, List.nil_append]
      congr 1; omega
    rw [e1, e2]
    simp

/-- The parts of an aggregate, laid one after the other. -/
theorem fill_ok {place : Nat → Option (Nat × Nat)} : ∀ {ps : List (Nat × AV)} {qs : List (Nat × Value)} {cs cs' : List AV} {cells : Array Value},
    fillA place cs ps = some cs' → ps.map (·.1) = qs.map (·.1) → Reps C w (ps.map (·.2)) (qs.map (·.2)) → Reps C w cs cells.toList → (∀ c ∈ cells.toList, c.oneCell' = true) →
    ∃ cells', Instr.fill place cells qs = some cells' ∧ Reps C w cs' cells'.toList ∧ (∀ c ∈ cells'.toList, c.oneCell' = true) ∧ cells'.size = cells.size
  | [], qs, cs, cs', cells, h, hk, _, hr, ho => by
    cases h
    cases qs with
    | nil => exact ⟨cells, rfl, hr, ho, rfl⟩
    | cons q qs => simp at hk
  | (i, x) :: ps, [], cs, cs', cells, h, hk, _, hr, ho => by simp at hk
  | (i, x) :: ps, (j, y) :: qs, cs, cs', cells, h, hk, hv, hr, ho => by
    simp only [List.map_cons, List.cons.injEq] at hk
    obtain ⟨rfl, hk⟩ := hk
    simp only [List.map_cons, Reps] at hv
    obtain ⟨y', ys', e, hx, hv⟩ := hv
    cases e
    simp only [fillA] at h
    split at h
    · rename_i off size hpl
      split at h
      · rename_i hc
        simp only [Bool.and_eq_true, beq_iff_eq, decide_eq_true_eq] at hc
        obtain ⟨⟨h1, h2⟩, h3⟩ := hc
        obtain ⟨hxr, hxo⟩ := rep_cells h1 hx
        have hl := hxr.length
        have hs : y.cells.size = size := by rw [← h2, hl]; simp
        have hcl := hr.length
        simp only [Array.length_toList] at hcl hl
        have hf := fold_set y.cells.toList 0 cells off (by simp; omega)
        have hsz : (y.cells.toList.zipIdx.foldl (fun cs (c, j) => cs.setIfInBounds (off + j) c) cells).size = cells.size := by
          rw [← Array.length_toList, hf]; simp; omega
        obtain ⟨cells', g1, g2, g3, g4⟩ := fill_ok (cells := y.cells.toList.zipIdx.foldl (fun cs (c, j) => cs.setIfInBounds (off + j) c) cells) h hk hv
          (by rw [hf]; simpa using hr.splice hxr off)
          (by
            rw [hf]
            intro c hc
            simp only [List.mem_append] at hc
            rcases hc with (hc | hc) | hc
            · exact ho c (List.mem_of_mem_take hc)
            · exact hxo c hc
            · exact ho c (List.mem_of_mem_drop hc))
        refine ⟨cells', ?_, g2, g3, by rw [g4, hsz]⟩
        simp only [Instr.fill, hpl]
        rw [if_neg (by rw [hs]; simp; omega)]
        have e : y.cells.zipIdx.foldl (fun cs (x : Value × Nat) => cs.setIfInBounds (off + x.2) x.1) cells = y.cells.toList.zipIdx.foldl (fun cs (c, j) => cs.setIfInBounds (off + j) c) cells := by
          rw [← Array.foldl_toList]; simp
        rw [e]; exact g1
      · cases h
    · cases h

end
end Go.Den
