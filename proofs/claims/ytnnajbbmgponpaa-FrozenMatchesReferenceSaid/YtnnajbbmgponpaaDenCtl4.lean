/-
  Code: regions, sequences, branches, loops, ranges over functions. Conditions: as each statement says.
-/
import Derived.Test.YtnnajbbmgponpaaDenCtl3
import Derived.LoopNIn
import Derived.RangeFuncRecord
import Derived.RangeFuncNested
namespace Go.Den
section
variable {P : Program} {cfg : FuncId → FCfg} {rec : Task → AMem → Option (AV × AMem)} {C : Cx} {w : World}

def toExit : AExit → Exit
  | .normal => .normal
  | .exit id => .exit id
  | .ret => .ret

def ArOk (C : Cx) : Option Nat → Option Nat → Prop
  | none, none => True
  | some id, some l => ∃ bi, C.blk id = some bi ∧ bi.b = l
  | _, _ => False

theorem ArOk.ext {C' : Cx} {w' : World} (h : Ext C w C' w') {x y : Option Nat} (ho : ArOk C x y) : ArOk C' x y := by
  cases x <;> cases y <;> simp only [ArOk] at ho ⊢
  obtain ⟨bi, h1, h2⟩ := ho
  exact ⟨bi, h.blk _ _ h1, h2⟩

theorem StOk.ext' {C' : Cx} {w' : World} {a : Act} {st st' : St} (h : Ext C w C' w') (hs : StOk C w a st) (hS : Sim C' w' st'.m) (he : st'.s = st.s) (hm : st'.marks = st.marks) : StOk C' w' a st' :=
  ⟨by rw [he]; exact Reps.ext h _ _ hs.slots, hS, by rw [hm]; exact hs.marks.ext h⟩

theorem all_pairs {α : Type} {l : List α} {f : α → Nat → α → Nat → Bool} (h : ((l.zipIdx).all fun (y, j) => (l.zipIdx).all fun (x, i) => f y j x i) = true) {i j : Nat} {x y : α} (hx : l[i]? = some x) (hy : l[j]? = some y) : f y j x i = true := by
  rw [List.all_eq_true] at h
  have h1 := h (y, j) (List.mem_zipIdx_iff_getElem?.2 hy)
  rw [List.all_eq_true] at h1
  exact h1 (x, i) (List.mem_zipIdx_iff_getElem?.2 hx)

theorem quiet_free {a b : Acc} (ha : quietAcc a = true) (hb : quietAcc b = true) : a.free b = true := by
  cases a <;> cases b <;> simp_all [quietAcc, Acc.free]

theorem orderly_of {ops : Array Oper} {R : List (Nat × Nat × Acc)} (hap : apartAll ops = true) (hR : R.map (·.1) = List.range' 0 ops.size) (hf : (R.map (·.2.2)).all quietAcc = true ∨ freeAll (Region.before ops) (R.map (·.2.2)) = true) : Orderly ops R := by
  have hidx : ∀ (i : Nat) (x : Nat × Nat × Acc), R[i]? = some x → x.1 = i := by
    intro i x hx
    have : (R.map (·.1))[i]? = some x.1 := by simp [hx]
    have hlen : R.length = ops.size := by simpa using congrArg List.length hR
    have hi := (List.getElem?_eq_some_iff.1 hx).1
    rw [hR, List.getElem?_range' (by omega)] at this
    simp at this; omega
  unfold Orderly
  rw [List.pairwise_iff_getElem]
  intro i j hi hj hlt
  have hxi : R[i]? = some R[i] := List.getElem?_eq_getElem hi
  have hxj : R[j]? = some R[j] := List.getElem?_eq_getElem hj
  have ei := hidx i _ hxi
  have ej := hidx j _ hxj
  rw [ei, ej]
  by_cases hb : ((Region.before ops).getD j 0).testBit i = true
  · exact .inl hb
  · refine .inr ⟨?_, fun o1 o2 h1 h2 => ?_⟩
    · rcases hf with hf | hf
      · rw [List.all_eq_true] at hf
        exact quiet_free (hf _ (by simp only [List.mem_map]; exact ⟨R[i], List.getElem_mem hi, rfl⟩)) (hf _ (by simp only [List.mem_map]; exact ⟨R[j], List.getElem_mem hj, rfl⟩))
      · have := all_pairs (l := R.map fun z : Nat × Nat × Acc => z.2.2) (f := fun (b : Acc) (j : Nat) (a : Acc) (i : Nat) => !(decide (i < j)) || ((Region.before ops).getD j 0).testBit i || a.free b) hf (i := i) (j := j) (x := R[i].2.2) (y := R[j].2.2) (by simp [hxi]) (by simp [hxj])
        simp only [hlt, decide_true, Bool.not_true, Bool.false_or, Bool.or_eq_true] at this
        exact this.resolve_left hb
    · rw [ei] at h1
      rw [ej] at h2
      have := all_pairs (l := ops.toList) (f := fun (y : Oper) (j : Nat) (x : Oper) (i : Nat) => !(decide (i < j)) || ((Region.before ops).getD j 0).testBit i || x.apart ops y) hap (i := i) (j := j) (x := o1) (y := o2) (by simpa using h1) (by simpa using h2)
      simp only [hlt, decide_true, Bool.not_true, Bool.false_or, Bool.or_eq_true] at this
      exact this.resolve_left hb

theorem reserve_eq (m : AMem) (k : Nat) : reserve m k = { m with blks := m.blks ++ List.replicate k .free } := by
  cases k with
  | zero => simp [reserve]
  | succ k => rfl

theorem region_ok {id k : Nat} {ops : Array Oper} {draw : Bool} {ar : Option Nat} {st st' : St} {a : Act} (hm : P.follows .mixedOrders = true) (hrec : RecOk2 P cfg rec) (hex : exRegion P cfg rec ops draw st = some st') (hc : codeOk (.region id ops draw) = true) (hst : StOk C w a st)
    {Q : Exit → Act → World → Prop} (hQ : ∀ a' w' C', Post C w st.m C' w' st'.m → StOk C' w' a' st' → Q .normal a' w') : (Code.region id ops draw).wpIn (Fa ar) k P Q a w := by
  unfold exRegion at hex
  rw [reserve_eq] at hex
  split at hex
  · rename_i st1 as h1
    have hR := post_reserve hst.sim (newCount ops.toList)
    have hst0 : StOk C w a { st with m := { st.m with blks := st.m.blks ++ List.replicate (newCount ops.toList) .free } } := ⟨hst.slots, hR.sim, hst.marks⟩
    obtain ⟨R, r1, r2, r3⟩ := runs_of_exOps ops.toList [] _ _ _ _ rfl h1
    simp only [List.length_nil, Array.length_toList] at r2
    cases draw with
    | false =>
      simp only [Bool.not_false, Bool.true_or, cond_true, Option.some.injEq] at hex
      subst hex
      refine wpIn_region ?_
      have := runs_ok (ar := ar) (k := k) (Q := Q) hrec r1 hst0 fun a' w' C' hP hs => hQ a' w' C' (hR.trans hP) hs
      rw [r2] at this
      rw [List.range_eq_range']
      exact this
    | true =>
      simp only [Bool.not_true, Bool.false_or] at hex
      cases hf : (as.all quietAcc || freeAll (Region.before ops) as) with
      | false => rw [hf] at hex; cases hex
      | true =>
        rw [hf] at hex
        simp only [cond_true, Option.some.injEq] at hex
        subst hex
        simp only [codeOk, Bool.not_true, Bool.false_or, Bool.and_eq_true, List.all_eq_true] at hc
        obtain ⟨hap, hlt⟩ := hc
        have hlt' : ∀ (i : Nat) (o : Oper), ops[i]? = some o → ∀ e ∈ o.after.toList, Region.binds .any e = true → e.on < i := by
          intro i o ho e he hb
          have h2 := hlt (o, i) (List.mem_zipIdx_iff_getElem?.2 (by simpa using ho))
          simp only [Array.all_eq_true_iff_forall_mem] at h2
          simpa [hb] using h2 e (by simpa using he)
        have hsame : SameHeap w { w with drawn := w.drawn + 1 } := ⟨rfl, rfl, rfl, rfl⟩
        have hP0 := Post.same hsame hR.sim
        refine wpIn_region_any hm ?_
        have hord : Orderly ops R := orderly_of hap r2 (by rw [r3]; simpa using hf)
        have hidx : ∀ (i : Nat) (x : Nat × Nat × Acc), R[i]? = some x → x.1 = i := by
          intro i x hx
          have : (R.map (·.1))[i]? = some x.1 := by simp [hx]
          have hlen : R.length = ops.size := by simpa using congrArg List.length r2
          have hi := (List.getElem?_eq_some_iff.1 hx).1
          rw [r2, List.getElem?_range' (by omega)] at this
          simp at this; omega
        have hlen : R.length = ops.size := by simpa using congrArg List.length r2
        refine any_ok hrec hlt' ops.size hlen ⟨by simp, ?_, fun i hi => ?_, fun i o ho hl => ?_, fun x hx => ?_⟩ hord r1 (hst0.ext' hP0.ext hP0.sim rfl rfl) fun a' w' C' hP hs => hQ a' w' C' (hR.trans (hP0.trans hP)) hs
        · rw [List.pairwise_iff_getElem]
          intro i j hi hj hij
          rw [hidx i _ (List.getElem?_eq_getElem hi), hidx j _ (List.getElem?_eq_getElem hj)]
          exact hij
        · rw [Array.getElem?_replicate, if_pos hi]
          exact ⟨fun _ => ⟨R[i]'(by omega), List.getElem_mem _, hidx i _ (List.getElem?_eq_getElem (by omega))⟩, fun _ => rfl⟩
        · rw [Array.getElem?_replicate] at hl
          split at hl <;> cases hl
        · obtain ⟨i, hi⟩ := List.getElem?_of_mem hx
          rw [hidx i x hi]
          have := (List.getElem?_eq_some_iff.1 hi).1; omega
  · cases hex

theorem wrote_putObj {b : Nat} {o o' : Obj} (h : w.heap[b]? = some o) : Wrote w (w.putObj b o') b o' := by
  have hlt := (Array.getElem?_eq_some_iff.1 h).1
  exact ⟨by simp [World.putObj, hlt], fun k hk => by simp [World.putObj, Array.getElem?_setIfInBounds_ne (Ne.symm hk)], by simp [World.putObj], rfl, rfl, rfl⟩

theorem alike_loop {L : Loop} {o : Obj} : Alike (Obj.loop L) o := fun _ _ _ h => by cases h
theorem alike_dfd {x : Option (List Deferred)} {o : Obj} : Alike (Obj.deferred x) o := fun _ _ _ h => by cases h

/-- The record of a loop is laid. -/
theorem post_loop {m : AMem} {fn : FuncId} {a : Act} {st : St} {ps : Array Tmp} {assign body : Code} {dfr : Nat} {id : Nat} (hS : Sim C w m) (hid : m.blks[id]? = some .free) (hro : m.ro ≤ id) (hs : Reps C w st.s a.tmps.toList) (fa : FuncId) (hc1 : codeOk assign = true) (hc2 : codeOk body = true) :
    Post C w m (C.setBlk id ⟨w.heap.size, 0, 0⟩) (w.alloc (.loop { state := .ready, pending := none, fn, tmps := a.tmps, params := ps, assign, body, defers := dfr })) { m with blks := m.blks.set id (.loop { state := .ready, pending := none, fn := fa, tmps := st.s, params := ps, assign, body }) } := by
  have hg := grew_alloc w (.loop { state := .ready, pending := none, fn, tmps := a.tmps, params := ps, assign, body, defers := dfr })
  exact post_new hS hid hro hg fun hE => ⟨_, _, by simp [Cx.setBlk]; rfl, hg.at_, rfl, rfl, rfl, rfl, rfl, Reps.ext hE _ _ hs, hc1, hc2⟩

theorem set_append_two {l : List ABlk} {x y : ABlk} : (((l ++ List.replicate 2 ABlk.free).set l.length x).set (l.length + 1) y) = l ++ [x, y] := by
  simp [List.replicate_succ]
theorem set_append_one {l : List ABlk} {x : ABlk} : ((l ++ List.replicate 1 ABlk.free).set l.length x) = l ++ [x] := by
  simp [List.replicate_succ]

theorem marks_lt {m : AMem} (hS : Sim C w m) : ∀ {is : List Nat} {ds : List Deferred}, MarksOk C is ds → ∀ i ∈ is, i < m.blks.length
  | [], _, _, i, hi => by simp at hi
  | j :: is, ds, ⟨bi, ds', h1, h2, h3⟩, i, hi => by
    rcases List.mem_cons.1 hi with rfl | hi
    · exact hS.dom _ _ h1
    · exact marks_lt hS h3 i hi

/-- Behind the call of the function that was ranged over. -/
theorem range_end {ar : Option Nat} {k l : Nat} {st : St} {a a' : Act} {e : AExit} {C1 C2 : Cx} {w1 w3 : World} {m1 m2 : AMem} {bi : BI} {marks : List Nat}
    (hst : StOk C w a st) (hP1 : Post C w st.m C1 w1 m1) (hP2 : Post C1 w1 m1 C2 w3 m2) (hl : C1.blk l = some bi) (hlen : st.m.blks.length ≤ l) (hro : st.m.ro ≤ l) 
    (ha : a'.tmps = a.tmps) (hmk : MarksOk C1 marks a'.defers) (hml : ∀ i ∈ marks, i ≤ l)
    {st' : St} (hfin : afterRange st l marks m2 = some (e, st')) :
    ∃ jump w₄, (Instr.endLoop bi.b).run P w3 = .ok jump w₄ ∧
      (match jump with
       | none => ∃ C', Exit.normal = toExit e ∧ Post C w st.m C' w₄ st'.m ∧ StOk C' w₄ a' st'
       | some c => c.wpIn (Fa ar) k P (fun e' a' w' => ∃ C', e' = toExit e ∧ Post C w st.m C' w' st'.m ∧ StOk C' w' a' st') a' w₄) := by
  obtain ⟨r, hb, hns, hfin⟩ : ∃ r, m2.blks[l]? = some (.loop r) ∧ r.state ≠ .busy ∧ (match r.pending with
      | none => some (AExit.normal, ({ st with m := { m2 with blks := m2.blks.set l .gone }.shrink (l + 1), marks } : St))
      | some c => (exitOf c).map fun e => (e, ({ st with m := { m2 with blks := m2.blks.set l .gone }.shrink (l + 1), marks } : St))) = some (e, st') := by
    unfold afterRange at hfin
    split at hfin
    · rename_i r hb
      split at hfin
      · cases hfin
      · rename_i hns
        exact ⟨r, hb, hns, hfin⟩
    · cases hfin
  have hl2 := hP2.ext.blk _ _ hl
  obtain ⟨bi', L, g1, g2, g3, g4, _⟩ := hP2.sim.blk _ _ hb
  rw [hl2] at g1; cases g1
  have hend := run_endLoop (P := P) g2 (by rw [g3]; exact hns)
  have hw := wrote_putObj (o' := .loop { L with state := .exhausted }) g2
  have hP3 := post_wrote (blk' := .gone) hP2.sim hl2 hb (by simp) (by rw [hP2.ro, hP1.ro]; exact hro) hw g2 alike_loop fun _ => trivial
  have hP4 := (hP1.trans hP2).trans hP3
  have hlt : l < m2.blks.length := (List.getElem?_eq_some_iff.1 hb).1
  obtain ⟨hP5, hL⟩ := meth_back (n := l + 1) hst.sim hP4 (by omega) (by simp; omega)
  refine ⟨r.pending, w3.putObj bi.b (.loop { L with state := .exhausted }), by rw [← g4]; exact hend, ?_⟩
  have hmarks : MarksOk (C2.methBack (l + 1)) marks a'.defers := by
    have : ∀ {is : List Nat} {ds : List Deferred}, (∀ i ∈ is, i ≤ l) → MarksOk C1 is ds → MarksOk (C2.methBack (l + 1)) is ds := by
      intro is
      induction is with
      | nil => intro ds _ h; exact h
      | cons i is ih =>
        intro ds hi h
        obtain ⟨b, ds', h1, h2, h3⟩ := h
        exact ⟨b, ds', hL.blk _ _ (by have := hi i (List.mem_cons_self ..); omega) (hP2.ext.blk _ _ h1), h2, ih (fun j hj => hi j (List.mem_cons_of_mem _ hj)) h3⟩
    exact this hml hmk
  have hfinal : StOk (C2.methBack (l + 1)) (w3.putObj bi.b (.loop { L with state := .exhausted })) a' { st with m := { m2 with blks := m2.blks.set l .gone }.shrink (l + 1), marks } :=
    ⟨by rw [ha]; exact Reps.ext hP5.ext _ _ hst.slots, hP5.sim, hmarks⟩
  cases hp : r.pending with
  | none =>
    rw [hp] at hfin
    cases hfin
    exact ⟨_, rfl, hP5, hfinal⟩
  | some c =>
    rw [hp] at hfin
    simp only [Option.map_eq_some_iff] at hfin
    obtain ⟨e0, he, e1⟩ := hfin
    cases e1
    simp only
    cases c <;> simp [exitOf] at he
    · subst he; exact wpIn_exit ⟨_, rfl, hP5, hfinal⟩
    · subst he; exact wpIn_ret ⟨_, rfl, hP5, hfinal⟩

theorem range_ok {fn : FuncId} {around ar : Option Nat} {k : Nat} {g : Operand} {ps : Array Tmp} {assign body : Code} {st st' : St} {a : Act} {e : AExit} (hrec : RecOk2 P cfg rec) (hex : exRange rec fn around g ps assign body st = some (e, st')) (hc : codeOk (.rangeFunc g ps assign body) = true)
    (hst : StOk C w a st) (har : ArOk C around ar) :
    (Code.rangeFunc g ps assign body).wpIn (Fa ar) k P (fun e' a' w' => ∃ C', e' = toExit e ∧ Post C w st.m C' w' st'.m ∧ StOk C' w' a' st') a w := by
  simp only [codeOk, Bool.and_eq_true] at hc
  obtain ⟨hc1, hc2⟩ := hc
  unfold exRange at hex
  split at hex
  · rename_i f first cap hev
    have hg := ev_ok hst.slots g
    rw [hev] at hg
    simp only [Rep] at hg
    obtain ⟨fs, cs, hgv, hr1, hr2⟩ := hg
    refine wpIn_rangeFunc fun fn' _ => ?_
    rw [Fa_round]
    have hresolve : ∀ (l : Nat) (w1 : World), (resolve a.eval (rangeCall g l) 0).run P w1 = .ok { target := .fn (.func f) cs, args := fs ++ #[.func (.yield l) #[] #[]] } w1 := by
      intro l w1
      have he : a.eval (.const (.func (.yield l) #[] #[])) = .func (.yield l) #[] #[] := rfl
      simp [resolve, hgv, Deferred.ofValue, he]
    cases around with
    | none =>
      cases ar with
      | some l => exact har.elim
      | none =>
        simp only [layLoop] at hex
        split at hex
        · rename_i hro
          split at hex
          · rename_i r1 m2 hcall
            · skip
              have hres := post_reserve hst.sim 2
              have hd := post_new (C := C) (w := w) (m := { st.m with blks := st.m.blks ++ List.replicate 2 .free }) (id := st.m.blks.length) (sz := 0) (cnt := 0) (blk' := .dfd) hres.sim (by simp [List.replicate_succ]) hro (grew_alloc w (.deferred (some []))) fun hE => ⟨_, by simp [Cx.setBlk]; rfl, heap_alloc_new _ _⟩
              have hslots := Reps.ext hd.ext _ _ hst.slots
              have hl := post_loop (fn := fn') (ps := ps) (dfr := w.heap.size) (id := st.m.blks.length + 1) hd.sim (by simp [List.replicate_succ]) (by simp only []; omega) hslots fn hc1 hc2
              have hP1 := (hres.trans hd).trans hl
              simp only [set_append_two, World.size_alloc] at hP1
              obtain ⟨fnc, cd, b1, b2, b3⟩ := hrec.base.body _ _ _ _ _ hcall
              refine ⟨w.heap.size + 1, _, _, _, _, f, _, _, run_enterLoop_outer fn' a.tmps ps assign body, hresolve _ _, fun f' _ => Fa_fn _ f', run_callFunc b1 b2 b3, fun h => (by rw [Fa_depth] at h; cases h), callsIn_Fa ?_⟩
              have hblk : ((C.setBlk st.m.blks.length ⟨w.heap.size, 0, 0⟩).setBlk (st.m.blks.length + 1) ⟨w.heap.size + 1, 0, 0⟩).blk (st.m.blks.length + 1) = some ⟨w.heap.size + 1, 0, 0⟩ := by simp [Cx.setBlk]
              have hargs : Reps ((C.setBlk st.m.blks.length ⟨w.heap.size, 0, 0⟩).setBlk (st.m.blks.length + 1) ⟨w.heap.size + 1, 0, 0⟩) ((w.alloc (.deferred (some []))).alloc (.loop { state := .ready, pending := none, fn := fn', tmps := a.tmps, params := ps, assign, body, defers := w.heap.size }))
                  (first ++ [.yld (st.m.blks.length + 1)] ++ cap) (fs ++ #[Value.func (.yield (w.heap.size + 1)) #[] #[]] ++ cs).toList := by
                have h1 := Reps.ext hP1.ext _ _ hr1
                have h2 := Reps.ext hP1.ext _ _ hr2
                have h3 : Reps ((C.setBlk st.m.blks.length ⟨w.heap.size, 0, 0⟩).setBlk (st.m.blks.length + 1) ⟨w.heap.size + 1, 0, 0⟩) ((w.alloc (.deferred (some []))).alloc (.loop { state := .ready, pending := none, fn := fn', tmps := a.tmps, params := ps, assign, body, defers := w.heap.size })) [.yld (st.m.blks.length + 1)] [Value.func (.yield (w.heap.size + 1)) #[] #[]] := by
                  simp only [Reps, Rep]
                  exact ⟨_, [], rfl, ⟨_, hblk, rfl⟩, rfl⟩
                simpa using (h1.append h3).append h2
              refine (hrec.base.call _ _ _ _ _ hcall _ _ _ hP1.sim hargs (k - 1)).mono ?_
              rintro e3 w3 ⟨v, C2, rfl, hP2, _⟩
              · skip
                exact range_end (C := C) (w := w) (marks := st.m.blks.length :: st.marks) (a' := { a with defers := [{ target := .collected w.heap.size, args := #[] }] ++ a.defers }) hst hP1 hP2 hblk (by omega) (by omega) rfl
                  ⟨⟨w.heap.size, 0, 0⟩, a.defers, by simp [Cx.setBlk], rfl, hst.marks.ext hP1.ext⟩ (by
                    intro i hi
                    rcases List.mem_cons.1 hi with rfl | hi
                    · omega
                    · have := marks_lt hst.sim hst.marks i hi; omega) hex
          · cases hex
        · cases hex
    | some id0 =>
      cases ar with
      | none => exact har.elim
      | some l0 =>
        simp only [layLoop] at hex
        split at hex
        · rename_i l marks m1 hm1
          split at hm1
          · rename_i lr hlr
            cases hm1
            split at hex
            · rename_i hro
              split at hex
              · rename_i r1 m2 hcall
                · skip
                  have hres := post_reserve hst.sim 1
                  obtain ⟨bi0, hC0, rfl⟩ := har
                  obtain ⟨bi0', L0, k1, k2, _⟩ := hst.sim.blk _ _ hlr
                  rw [hC0] at k1; cases k1
                  have hl := post_loop (fn := fn') (ps := ps) (dfr := L0.defers) (id := st.m.blks.length) hres.sim (by simp [List.replicate_succ]) hro hst.slots fn hc1 hc2
                  have hP1 := hres.trans hl
                  simp only [set_append_one] at hP1
                  obtain ⟨fnc, cd, b1, b2, b3⟩ := hrec.base.body _ _ _ _ _ hcall
                  refine ⟨w.heap.size, _, _, _, _, f, _, _, run_enterLoop_inner k2 fn' a.tmps ps assign body, hresolve _ _, fun f' _ => Fa_fn _ f', run_callFunc b1 b2 b3, fun h => (by rw [Fa_depth] at h; cases h), callsIn_Fa ?_⟩
                  have hblk : (C.setBlk st.m.blks.length ⟨w.heap.size, 0, 0⟩).blk st.m.blks.length = some ⟨w.heap.size, 0, 0⟩ := by simp [Cx.setBlk]
                  have hargs : Reps (C.setBlk st.m.blks.length ⟨w.heap.size, 0, 0⟩) (w.alloc (.loop { state := .ready, pending := none, fn := fn', tmps := a.tmps, params := ps, assign, body, defers := L0.defers }))
                      (first ++ [.yld st.m.blks.length] ++ cap) (fs ++ #[Value.func (.yield w.heap.size) #[] #[]] ++ cs).toList := by
                    have h1 := Reps.ext hP1.ext _ _ hr1
                    have h2 := Reps.ext hP1.ext _ _ hr2
                    have h3 : Reps (C.setBlk st.m.blks.length ⟨w.heap.size, 0, 0⟩) (w.alloc (.loop { state := .ready, pending := none, fn := fn', tmps := a.tmps, params := ps, assign, body, defers := L0.defers })) [.yld st.m.blks.length] [Value.func (.yield w.heap.size) #[] #[]] := by
                      simp only [Reps, Rep]
                      exact ⟨_, [], rfl, ⟨_, hblk, rfl⟩, rfl⟩
                    simpa using (h1.append h3).append h2
                  refine (hrec.base.call _ _ _ _ _ hcall _ _ _ hP1.sim hargs (k - 1)).mono ?_
                  rintro e3 w3 ⟨v, C2, rfl, hP2, _⟩
                  · skip
                    exact range_end (C := C) (w := w) (marks := st.marks) (a' := { a with defers := [] ++ a.defers }) hst hP1 hP2 hblk (by omega) (by omega) rfl (hst.marks.ext hP1.ext) (by
                      intro i hi
                      have := marks_lt hst.sim hst.marks i hi; omega) hex
              · cases hex
            · cases hex
          · cases hm1
        · cases hex
  · cases hex
theorem clrS_ok {s : List AV} {ys : List Value} : ∀ (bs : List Bool), Reps C w s ys → Reps C w (clrS bs s) ys := by
  intro bs
  induction bs generalizing s ys with
  | nil => intro h; cases s <;> simpa [clrS] using h
  | cons b bs ih =>
    intro h
    cases s with
    | nil => simpa [clrS] using h
    | cons x xs =>
      simp only [Reps] at h
      obtain ⟨y, ys', e, h1, h2⟩ := h
      simp only [clrS, Reps]
      refine ⟨y, ys', e, ?_, ih h2⟩
      cases b
      · exact rep_any C w y
      · exact h1

theorem exec_ok {n : Nat} {fn : FuncId} {around ar : Option Nat} {mask : List Bool} {k : Nat} (hm : P.follows .mixedOrders = true) (hrec : RecOk2 P cfg rec) : ∀ (c : Code) {C : Cx} {w : World} {a : Act} {st st' : St} {e : AExit},
    exec P cfg rec n fn around mask c st = some (e, st') → codeOk c = true → StOk C w a st → ArOk C around ar →
    c.wpIn (Fa ar) k P (fun e' a' w' => ∃ C', e' = toExit e ∧ Post C w st.m C' w' st'.m ∧ StOk C' w' a' st') a w
  | .skip, C, w, a, st, st', e, h, _, hst, _ => by cases h; exact wpIn_skip ⟨C, rfl, Post.refl hst.sim, hst⟩
  | .label _, C, w, a, st, st', e, h, _, hst, _ => by cases h; exact wpIn_label ⟨C, rfl, Post.refl hst.sim, hst⟩
  | .exit id, C, w, a, st, st', e, h, _, hst, _ => by cases h; exact wpIn_exit ⟨C, rfl, Post.refl hst.sim, hst⟩
  | .ret, C, w, a, st, st', e, h, _, hst, _ => by cases h; exact wpIn_ret ⟨C, rfl, Post.refl hst.sim, hst⟩
  | .region id ops draw, C, w, a, st, st', e, h, hc, hst, _ => by
    simp only [exec] at h
    split at h
    · rename_i st1 h1
      cases h
      exact region_ok hm hrec h1 hc hst fun a' w' C' hP hs => ⟨C', rfl, hP, hs⟩
    · cases h
  | .seq x y, C, w, a, st, st', e, h, hc, hst, har => by
    simp only [codeOk, Bool.and_eq_true] at hc
    simp only [exec] at h
    split at h
    · rename_i st1 h1
      refine wpIn_seq (wpIn_mono (exec_ok hm hrec x h1 hc.1 hst har) ?_)
      rintro e' a' w' ⟨C', rfl, hP, hs⟩
      refine wpIn_mono (exec_ok hm hrec y h hc.2 hs (har.ext hP.ext)) ?_
      rintro e'' a'' w'' ⟨C'', rfl, hP', hs'⟩
      exact ⟨C'', rfl, hP.trans hP', hs'⟩
    · rename_i hne
      refine wpIn_seq (wpIn_mono (exec_ok hm hrec x h hc.1 hst har) ?_)
      rintro e' a' w' ⟨C', rfl, hP, hs⟩
      cases e with
      | normal => exact absurd h (hne st')
      | exit id => exact ⟨C', rfl, hP, hs⟩
      | ret => exact ⟨C', rfl, hP, hs⟩
  | .cond c x y, C, w, a, st, st', e, h, hc, hst, har => by
    simp only [codeOk, Bool.and_eq_true] at hc
    simp only [exec] at h
    split at h
    · rename_i t ht
      have hv := ev_ok hst.slots c
      rw [ht] at hv
      simp only [Rep] at hv
      cases t with
      | true => exact wpIn_cond_true hv (exec_ok hm hrec x h hc.1 hst har)
      | false => exact wpIn_cond_false hv (exec_ok hm hrec y h hc.2 hst har)
    · cases h
  | .block id c, C, w, a, st, st', e, h, hc, hst, har => by
    simp only [codeOk] at hc
    simp only [exec] at h
    split at h
    · rename_i i st1 h1
      refine wpIn_block (wpIn_mono (exec_ok hm hrec c h1 hc hst har) ?_)
      rintro e' a' w' ⟨C', rfl, hP, hs⟩
      simp only [toExit, Exit.inBlock]
      split at h
      · rename_i hi
        cases h
        rw [if_pos hi]; exact ⟨C', rfl, hP, hs⟩
      · rename_i hi
        cases h
        rw [if_neg hi]; exact ⟨C', rfl, hP, hs⟩
    · rename_i hne
      refine wpIn_block (wpIn_mono (exec_ok hm hrec c h hc hst har) ?_)
      rintro e' a' w' ⟨C', rfl, hP, hs⟩
      cases e with
      | normal => exact ⟨C', rfl, hP, hs⟩
      | exit id' => exact absurd h (hne id' st')
      | ret => exact ⟨C', rfl, hP, hs⟩
  | .loop c, C, w, a, st, st', e, h, hc, hst, har => by
    simp only [codeOk] at hc
    simp only [exec] at h
    refine wpIn_loop_rounds n ?_
    have key : ∀ (j : Nat) {C1 : Cx} {w1 : World} {a1 : Act} {st1 : St}, loopN mask (exec P cfg rec n fn around mask c) j st1 = some (e, st') → Post C w st.m C1 w1 st1.m → StOk C1 w1 a1 st1 →
        Code.roundsIn (Fa ar) k P c (fun e' a' w' => ∃ C', e' = toExit e ∧ Post C w st.m C' w' st'.m ∧ StOk C' w' a' st') j a1 w1 := by
      intro j
      induction j with
      | zero => intro C1 w1 a1 st1 h1; cases h1
      | succ j ih =>
        intro C1 w1 a1 st1 h1 hP hs
        simp only [loopN] at h1
        have hs0 : StOk C1 w1 a1 { st1 with s := clrS mask st1.s } := ⟨clrS_ok mask hs.slots, hs.sim, hs.marks⟩
        rw [roundsIn_succ]
        split at h1
        · rename_i st2 h2
          refine wpIn_mono (exec_ok hm hrec c h2 hc hs0 (har.ext hP.ext)) ?_
          rintro e' a' w' ⟨C', rfl, hP', hs'⟩
          exact ih h1 (hP.trans hP') hs'
        · rename_i hne
          refine wpIn_mono (exec_ok hm hrec c h1 hc hs0 (har.ext hP.ext)) ?_
          rintro e' a' w' ⟨C', rfl, hP', hs'⟩
          cases e with
          | normal => exact absurd h1 (hne st')
          | exit id => exact ⟨C', rfl, hP.trans hP', hs'⟩
          | ret => exact ⟨C', rfl, hP.trans hP', hs'⟩
    exact key n h (Post.refl hst.sim) hst
  | .rangeFunc g ps assign body, C, w, a, st, st', e, h, hc, hst, har => by
    simp only [exec] at h
    exact range_ok hrec h hc hst har
  | .scope _, _, _, _, _, _, _, h, _, _, _ => by simp [exec] at h
  | .goto _, _, _, _, _, _, _, h, _, _, _ => by simp [exec] at h
  | .refuse _, _, _, _, _, _, _, h, _, _, _ => by simp [exec] at h
end
end Go.Den
