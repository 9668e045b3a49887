/-
  New slices, copies, lengths, maps. Conditions: as each statement says.
-/
import Derived.Test.YtnnajbbmgponpaaDenOps6
namespace Go.Den
section
variable {P : Program} {C : Cx} {w : World}

theorem flat_take {sz : Nat} : ∀ {vs : List Value} {k : Nat}, (∀ v ∈ vs, v.cells.size = sz) → flat (vs.take k) = (flat vs).take (k * sz)
  | [], k, _ => by simp [flat]
  | v :: vs, 0, _ => by simp [flat]
  | v :: vs, k + 1, h => by
    have hv : v.cells.toList.length = sz := by simpa using h v (by simp)
    have ih := flat_take (vs := vs) (k := k) (fun u hu => h u (by simp [hu]))
    simp only [flat] at ih
    simp only [flat, List.take_succ_cons, List.flatMap_cons, ih]
    have hm : (k + 1) * sz = sz + k * sz := by rw [Nat.succ_mul]; omega
    rw [List.take_append, List.take_of_length_le (l := v.cells.toList) (by omega), hv, hm]
    congr 2; omega

theorem flat_drop {sz : Nat} : ∀ {vs : List Value} {k : Nat}, (∀ v ∈ vs, v.cells.size = sz) → flat (vs.drop k) = (flat vs).drop (k * sz)
  | [], k, _ => by simp [flat]
  | v :: vs, 0, _ => by simp [flat]
  | v :: vs, k + 1, h => by
    have hv : v.cells.toList.length = sz := by simpa using h v (by simp)
    have ih := flat_drop (vs := vs) (k := k) (fun u hu => h u (by simp [hu]))
    simp only [flat] at ih
    simp only [flat, List.drop_succ_cons, List.flatMap_cons, ih]
    have hm : (k + 1) * sz = sz + k * sz := by rw [Nat.succ_mul]; omega
    rw [List.drop_append, List.drop_eq_nil_of_le (as := v.cells.toList) (by omega), hv, hm, List.nil_append]
    congr 1; omega

theorem Row.take {sz k : Nat} {es : List AV} {vs : List Value} (h : Row C w sz es vs) : Row C w sz (es.take k) (vs.take k) :=
  ⟨h.reps.take k, fun v hv => h.size v (List.mem_of_mem_take hv), fun v hv => h.one v (List.mem_of_mem_take hv)⟩
theorem Row.drop {sz k : Nat} {es : List AV} {vs : List Value} (h : Row C w sz es vs) : Row C w sz (es.drop k) (vs.drop k) :=
  ⟨h.reps.drop k, fun v hv => h.size v (List.mem_of_mem_drop hv), fun v hv => h.one v (List.mem_of_mem_drop hv)⟩

theorem makeSlice_ok {t : TypeId} {fresh : Nat} {same : Bool} {la ca : AV} {l c : Value} {r : Req} {m m' : AMem} {y : AV} {acc : Acc} (hq : makeSliceReq P fresh t same la ca = some r) (hrun : r.run m = some (y, m', acc)) (hS : Sim C w m)
    (hl : Rep C w la l) (hc : Rep C w ca c) (hsame : same = true → ∀ k n k' n', l = .int k n → c = .int k' n' → n' = n) :
    VOk P (Instr.makeSlice t l c) w fun v w' => ∃ C', Post C w m C' w' m' ∧ Rep C' w' y v := by
  unfold makeSliceReq at hq
  split at hq
  · rename_i el k n k' n' hu
    split at hq
    · rename_i sz z hsz hz
      split at hq
      · rename_i hck
        simp only [Bool.and_eq_true, beq_iff_eq, bne_iff_ne, decide_eq_true_eq] at hck
        obtain ⟨⟨⟨⟨⟨⟨h1, h2⟩, h3⟩, h4⟩, h5⟩, h6⟩, h7⟩ := hck
        simp only [Rep] at hl hc
        subst hl; subst hc
        obtain rfl := hsame h1 _ _ _ _ rfl rfl
        cases hq
        simp only [Req.run] at hrun
        split at hrun
        · rename_i hro
          split at hrun
          · rename_i b hb
            rw [Option.map_eq_some_iff] at hrun
            obtain ⟨⟨b', y'⟩, hk, e⟩ := hrun
            split at hk
            · cases hk
              cases e
              obtain ⟨i, hi, rfl⟩ := info_of hsz
              obtain ⟨zv, rfl, hzi⟩ : ∃ zv, z = .ofV zv ∧ i.zero = some zv := by
                unfold zeroA at hz
                rw [hi] at hz
                cases hzz : i.zero with
                | none => simp [hzz] at hz
                | some zv => simp [hzz] at hz; exact ⟨zv, hz.symm, rfl⟩
              simp only [roomFor, Bool.and_eq_true, decide_eq_true_eq] at h6
              have hby : P.bytesOf el = i.bytes := by simp [Program.bytesOf, hi]
              rw [hby] at h6
              have hbytes : (i.bytes : Int) * n' ≤ 281474976710656 := by
                have e1 : ((n'.toNat : Nat) : Int) = n' := Int.toNat_of_nonneg h5
                have h6' : ((n'.toNat * i.bytes : Nat) : Int) ≤ 70368744177664 := by omega
                rw [Int.natCast_mul, e1, Int.mul_comm] at h6'
                omega
              have hr := run_make (P := P) w t el i zv hu hi hzi k k' n' n' h5 (Int.le_refl _) hbytes h7
              have hrow := Row.replicate (n := n'.toNat) (rep_ofV C w zv) h2 h3
              have hzs : zv.cells.size = i.size := by
                obtain ⟨hr, _⟩ := rep_cells h2 (rep_ofV C w zv)
                rw [← h3, hr.length]; simp
              have hg := grew_alloc w (Obj.cells (madeCells zv.cells (n'.toNat * i.size)) el)
              have hpost := post_new (sz := i.size) (cnt := n'.toNat) (blk' := .arr (List.replicate n'.toNat (.ofV zv)) i.size) hS hb hro hg fun hE => by
                refine ⟨w.heap.size, _, el, by simp [Cx.setBlk], hg.at_, by simp [size_madeCells], (hrow.ext hE).elems fun j x hx => ⟨trivial, ?_, hrow.cells_one x (List.mem_of_getElem? hx)⟩⟩
                rw [Nat.zero_add, cell_of_arr hg.at_]
                rw [← madeCells_flat hzs h4] at hx
                simpa using hx
              refine .of hr ⟨_, hpost, ?_⟩
              simp only [Rep]
              exact ⟨⟨w.heap.size, i.size, n'.toNat⟩, n'.toNat, by simp [Cx.setBlk], rfl, by simp, Nat.le_refl _, by simp⟩
            · cases hk
          · cases hrun
        · cases hrun
      · cases hq
    · cases hq
  · cases hq

theorem items_ok {xa : AV} {x : Value} {sz : Nat} {es : List AV} (h : itemsA xa = some (sz, es)) (hx : Rep C w xa x) :
    ∃ xb c vs, x = .slice xb es.length c ∧ Row C w sz es vs ∧ (xb = none → es = []) ∧ ∀ a, xb = some a → ∀ (j : Nat) (u : Value), (flat vs)[j]? = some u → w.cell? (a.add j) = some u := by
  unfold itemsA at h
  split at h
  · cases h
    simp only [Rep] at hx
    exact ⟨none, 0, [], hx, ⟨by simp only [Reps], by simp, by simp⟩, fun _ => rfl, fun a e => by cases e⟩
  · cases h
    simp only [Rep] at hx
    obtain ⟨a0, cap, rfl, hle, hsp, hel, _⟩ := hx
    obtain ⟨vs, hr, hst⟩ := hel.row
    refine ⟨some a0, cap, vs, rfl, hr, fun e => (by cases e), fun a e j u hj => ?_⟩
    cases e
    rcases hsp with hsp | hnil
    · rw [addr_eta hsp, add_none]; exact (hst j u hj).2.1
    · rw [List.eq_nil_of_length_eq_zero (l := flat vs) (by rw [hr.len, hnil]; simp)] at hj; simp at hj
  · cases h

theorem copy_ok {t : TypeId} {ts : Array TypeId} {ty : TypeId} {da xa : AV} {d x : Value} {r : Req} {m m' : AMem} {y : AV} {acc : Acc} (hts : ts[0]? = some t) (hq : copyReq P t da xa = some r) (hrun : r.run m = some (y, m', acc)) (hS : Sim C w m)
    (hd : Rep C w da d) (hx : Rep C w xa x) : VOk P (Builtin.copy_ ts ty #[d, x]) w fun v w' => ∃ C', Post C w m C' w' m' ∧ Rep C' w' y v := by
  unfold copyReq at hq
  split at hq
  · rename_i el hu
    split at hq
    · rename_i size sz es osz id off n hsize hit
      cases hq
      simp only [Req.run] at hrun
      split at hrun
      · rename_i hro
        split at hrun
        · rename_i b hb
          rw [Option.map_eq_some_iff] at hrun
          obtain ⟨⟨b', y'⟩, hk, e⟩ := hrun
          cases e
          split at hk
          · rename_i bs szb
            split at hk
            · rename_i hck
              simp only [Bool.and_eq_true, beq_iff_eq, Bool.or_eq_true, decide_eq_true_eq, List.isEmpty_iff] at hck
              obtain ⟨⟨h1, h2⟩, h3⟩ := hck
              subst h1
              cases hk
              obtain ⟨xb, c, vs, rfl, hrow, hnil, hcell⟩ := items_ok hit hx
              simp only [Rep] at hd
              obtain ⟨bi, cap, hC, hosz, rfl, hle, hcnt⟩ := hd
              obtain ⟨b0, arr, e0, g1, g2, g3, g4⟩ := hS.blk id _ hb
              rw [hC] at g1; cases g1
              simp only at hosz hcnt
              -- the cells that are copied
              have hrow' : Row C w szb es vs := by
                rcases h2 with h2 | h2
                · subst h2
                  have := hrow.reps.length
                  have hv : vs = [] := List.eq_nil_of_length_eq_zero (by simpa using this.symm)
                  subst hv
                  exact ⟨hrow.reps, by simp, by simp⟩
                · rw [← h2]; exact hrow
              have hfl : (flat (vs.take (min es.length n))).length = min es.length n * szb := by
                rw [flat_length (sz := szb) (fun v hv => hrow'.size v (List.mem_of_mem_take hv)), List.length_take, ← hrow'.reps.length]
                congr 1; omega
              have hfirst : (Builtin.firstCells szb (min es.length n) (.slice xb es.length c)).run P w = .ok (flat (vs.take (min es.length n))).toArray w := by
                cases xb with
                | none =>
                  have := hnil rfl
                  subst this
                  have hv : vs = [] := List.eq_nil_of_length_eq_zero (by simpa using hrow'.reps.length.symm)
                  subst hv
                  simp [Builtin.firstCells, flat]
                | some a =>
                  refine run_firstCells_some (P := P) w szb _ a _ _ _ hfl fun j u hj => hcell a rfl j u ?_
                  rw [flat_take (sz := szb) hrow'.size, List.getElem?_take] at hj
                  split at hj
                  · exact hj
                  · cases hj
              obtain ⟨us, hu0, hst0⟩ := g4.row
              have hul : (flat us).length = bs.length * szb := hu0.len
              have hbound : off * szb + min es.length n * szb ≤ bs.length * szb := by
                rw [← Nat.add_mul]; exact Nat.mul_le_mul_right _ (by omega)
              obtain ⟨w', arr', k1, k2, k3, k4, k5⟩ := run_stores (P := P) (flat (vs.take (min es.length n))) 0 w b0 (off * szb) arr e0 g2 (by rw [hfl, g3]; omega) (fun u hu => by
                have : Row C w szb (es.take (min es.length n)) (vs.take (min es.length n)) := hrow'.take
                exact this.cells_one u hu)
              simp only [Nat.add_zero, hfl] at k4 k5
              have hpost := post_wrote (blk' := .arr (bs.take off ++ es.take n ++ bs.drop (off + min es.length n)) szb) hS hC hb (by simp) hro k2 g2 (alike_cells k3) fun hE => by
                have hlen : (bs.take off ++ es.take n ++ bs.drop (off + min es.length n)).length = bs.length := by simp; omega
                have hnew : Row C w' szb (bs.take off ++ es.take n ++ bs.drop (off + min es.length n)) (us.take off ++ vs.take (min es.length n) ++ us.drop (off + min es.length n)) := by
                  have e1 : es.take n = es.take (min es.length n) := by
                    rcases Nat.le_total es.length n with h | h
                    · rw [List.take_of_length_le h, List.take_of_length_le (by omega)]
                    · rw [Nat.min_eq_right h]
                  rw [e1]
                  exact ((((hu0.take).append hrow'.take).append hu0.drop)).ext hE
                refine ⟨b0, arr', e0, by rw [hC, hlen], k2.at_, by rw [k3, g3, hlen], hnew.elems fun j u hj => ⟨trivial, ?_, hnew.cells_one u (List.mem_of_getElem? hj)⟩⟩
                rw [Nat.zero_add, cell_of_arr k2.at_]
                rw [flat_append, flat_append, flat_take (sz := szb) hu0.size, flat_drop (sz := szb) hu0.size] at hj
                have ee : (off + min es.length n) * szb = off * szb + (flat (vs.take (min es.length n))).length := by rw [hfl, Nat.add_mul]
                rw [ee, getElem_splice (by rw [hfl, hul]; exact hbound), hfl] at hj
                have hold : ∀ u, (flat us)[j]? = some u → arr[j]? = some u := fun u hju => by
                  have := (hst0 j u hju).2.1
                  rwa [Nat.zero_add, cell_of_arr g2] at this
                split at hj
                · rename_i hlt; rw [k5 j (.inl hlt)]; exact hold u hj
                · split at hj
                  · have := k4 (j - off * szb) u hj
                    rwa [show off * szb + (j - off * szb) = j by omega] at this
                  · rw [k5 j (.inr (by omega))]; exact hold u hj
              refine .of (v := .int .i64 (min es.length n : Nat)) (w' := w') ?_ ⟨_, hpost, by simp [Rep]⟩
              have hmin : Nat.min es.length n = min es.length n := rfl
              simp only [Builtin.copy_]
              simp [hts, run_und hu, Builtin.lenOf, run_size hsize, hmin, hfirst, k1, goInt]
            · cases hk
          · cases hk
        · cases hrun
      · cases hrun
    · cases hq
  · cases hq

theorem len_ok {t : TypeId} {ts : Array TypeId} {ty : TypeId} {xa : AV} {x : Value} {r : Req} {m m' : AMem} {y : AV} {acc : Acc} (hts : ts[0]? = some t) (hq : lenA P t xa = some r) (hrun : r.run m = some (y, m', acc)) (hS : Sim C w m)
    (hx : Rep C w xa x) : VOk P (Builtin.len_ ts ty #[x]) w fun v w' => ∃ C', Post C w m C' w' m' ∧ Rep C' w' y v := by
  unfold lenA at hq
  split at hq
  · rename_i hu; cases hq; cases hrun; simp only [Rep] at hx; subst hx
    exact ⟨_, w, by simp [Builtin.len_, hts, run_und hu, goInt]; rfl, C, Post.refl hS, by simp [Rep]⟩
  · rename_i hu; cases hq; cases hrun
    exact ⟨_, w, by simp [Builtin.len_, hts, run_und hu, goInt]; rfl, C, Post.refl hS, by simp [Rep]⟩
  · rename_i hu; cases hq; cases hrun; simp only [Rep] at hx; subst hx
    exact ⟨_, w, by simp [Builtin.len_, hts, run_und hu, goInt]; rfl, C, Post.refl hS, by simp [Rep]⟩
  · rename_i hu; cases hq; cases hrun; simp only [Rep] at hx
    obtain ⟨a0, cap, rfl, _⟩ := hx
    exact ⟨_, w, by simp [Builtin.len_, hts, run_und hu, goInt]; rfl, C, Post.refl hS, by simp [Rep]⟩
  · rename_i hu; cases hq; cases hrun; simp only [Rep] at hx
    obtain ⟨bi, cap, _, _, rfl, _⟩ := hx
    exact ⟨_, w, by simp [Builtin.len_, hts, run_und hu, goInt]; rfl, C, Post.refl hS, by simp [Rep]⟩
  · rename_i hu; cases hq; cases hrun; simp only [Rep] at hx; subst hx
    exact ⟨_, w, by simp [Builtin.len_, hts, run_und hu, goInt]; rfl, C, Post.refl hS, by simp [Rep]⟩
  · rename_i id hu; cases hq
    simp only [Req.run] at hrun
    split at hrun
    · rename_i b hb
      rw [Option.map_eq_some_iff] at hrun
      obtain ⟨y', hk, e⟩ := hrun
      cases e
      split at hk
      · rename_i es
        cases hk
        simp only [Rep] at hx
        obtain ⟨bi, hC, rfl⟩ := hx
        obtain ⟨bi', ents, clock, h1, h2, h3⟩ := hS.blk id _ hb
        rw [hC] at h1; cases h1
        have hlen : ents.size = es.length := by
          have : ∀ {a : List (Value × AV)} {b : List MapEntry}, MapRep C w a b → b.length = a.length := by
            intro a b h
            induction h with
            | nil => rfl
            | cons _ _ _ ih => simp [ih]
          rw [← this h3]; simp
        exact ⟨_, w, by simp [Builtin.len_, hts, run_und hu, goInt, getObj, Sem.run, h2, hlen]; rfl, C, Post.refl hS, by simp [Rep]⟩
      · cases hk
    · cases hrun
  · cases hq

theorem max_ok {ts : Array TypeId} {ty : TypeId} {xa ya r : AV} {x y : Value} (h : max2A xa ya = some r) (hx : Rep C w xa x) (hy : Rep C w ya y) : VOk P (Builtin.max_ ts ty #[x, y]) w fun v w' => w' = w ∧ Rep C w r v := by
  unfold max2A at h
  split at h
  · cases h; simp only [Rep] at hx hy; subst hx; subst hy
    exact vval (by simp [Builtin.max_, Builtin.max2])
  · cases h

theorem min_ok {ts : Array TypeId} {ty : TypeId} {xa ya r : AV} {x y : Value} (h : min2A xa ya = some r) (hx : Rep C w xa x) (hy : Rep C w ya y) : VOk P (Builtin.min_ ts ty #[x, y]) w fun v w' => w' = w ∧ Rep C w r v := by
  unfold min2A at h
  split at h
  · cases h; simp only [Rep] at hx hy; subst hx; subst hy
    exact vval (by simp [Builtin.min_, Builtin.min2])
  · cases h

end
end Go.Den
