/-
  The abstract interpreter tells what the model does: of each function that it carries out, the call comes to what it says. Conditions: the program's text is in order ('progOk').
-/
import Derived.Test.YtnnajbbmgponpaaDenCtl4
namespace Go.Den
section
variable {P : Program} {cfg : FuncId → FCfg} {rec : Task → AMem → Option (AV × AMem)} {C : Cx} {w : World}

theorem prog_follows (hP : progOk P = true) : P.follows .mixedOrders = true := by
  simp only [progOk, Bool.and_eq_true] at hP; exact hP.1

theorem prog_func (hP : progOk P = true) {f : FuncId} {fn : Func} (hf : P.funcs[f]? = some fn) : (fn.name == "runtime.NumGoroutine") = false ∧ ∀ c, fn.body = some c → codeOk c = true := by
  simp only [progOk, Bool.and_eq_true, List.all_eq_true] at hP
  have h := hP.2 fn (by simpa using Array.mem_of_getElem? hf)
  obtain ⟨h1, h2⟩ := h
  refine ⟨by simpa [bne] using h1, fun c hc => ?_⟩
  rw [hc] at h2; exact h2

def resultRun (a : Array Value) (r : ResultVar) : Sem Value :=
  match r with
  | .tmp t => pure (a.getD t undef)
  | .cell c t => do loadVar t (← asAddr (a.getD c undef))

theorem result_ok {a : Array Value} {s : List AV} {m : AMem} {r : ResultVar} {x : AV} (hs : Reps C w s a.toList) (hS : Sim C w m) (h : resultA P s m r = some x) :
    ∃ v, (resultRun a r).run P w = .ok v w ∧ Rep C w x v := by
  have hev := fun t => ev_ok (a := { tmps := a, defers := [] }) hs (.tmp t)
  simp only [ev, Act.eval] at hev
  cases r with
  | tmp t =>
    simp only [resultA, Option.some.injEq] at h
    subst h
    exact ⟨_, by simp [resultRun], hev t⟩
  | cell c t =>
    simp only [resultA] at h
    split at h
    · rename_i id i off hc
      have hv := hev c
      rw [hc] at hv
      simp only [Rep] at hv
      obtain ⟨bi, hC, hv⟩ := hv
      split at h
      · rename_i es sz hb
        rw [Option.bind_eq_some_iff] at h
        obtain ⟨e, he, hp⟩ := h
        obtain ⟨b0, arr, e0, g1, g2, g3, g4⟩ := hS.blk id _ hb
        rw [hC] at g1; cases g1
        obtain ⟨v, h1, h2, h3⟩ := g4.get he
        simp only [Nat.zero_add] at h3
        unfold partE at hp
        split at hp
        · rename_i hpl
          obtain ⟨hr, _⟩ := rep_cells hpl h1
          obtain ⟨u, hu1, hu2, _⟩ := run_part (P := P) (off := off) hr h3 hp
          exact ⟨u, by simp only [resultRun, hv, asAddr]; simp [hu1], hu2⟩
        · cases hp
      · cases h
    · cases h

theorem results_mapM {a : Array Value} {s : List AV} {m : AMem} (hs : Reps C w s a.toList) (hS : Sim C w m) : ∀ (rs : List ResultVar) (xs : List AV), resultsA P s m rs = some xs →
    ∃ vs, (rs.mapM (resultRun a)).run P w = .ok vs w ∧ Reps C w xs vs
  | [], xs, h => by cases h; exact ⟨[], by simp, by simp only [Reps]⟩
  | r :: rs, xs, h => by
    simp only [resultsA] at h
    split at h
    · rename_i x xs' h1 h2
      cases h
      obtain ⟨v, g1, g2⟩ := result_ok hs hS h1
      obtain ⟨vs, g3, g4⟩ := results_mapM hs hS rs xs' h2
      refine ⟨v :: vs, ?_, by simp only [Reps]; exact ⟨v, vs, rfl, g2, g4⟩⟩
      simp only [List.mapM_cons, Sem.run_bind, g1, Result.andThen_ok, g3, Sem.run_pure]
    · cases h

theorem results_ok {fn : Func} {a : Array Value} {s : List AV} {m : AMem} {xs : List AV} (hs : Reps C w s a.toList) (hS : Sim C w m) (h : resultsA P s m fn.results.toList = some xs) :
    ∃ v, (results fn a).run P w = .ok v w ∧ Rep C w (oneOf xs) v := by
  obtain ⟨vs, h1, h2⟩ := results_mapM hs hS _ _ h
  have hrun : (fn.results.mapM (resultRun a)).run P w = .ok vs.toArray w := by
    rw [Array.mapM_eq_mapM_toList]
    simp [h1]
  have hres : results fn a = (do let vs ← fn.results.mapM (resultRun a); pure (if h : vs.size = 1 then vs[0] else .tuple vs)) := by
    unfold results
    congr 1
  rw [hres]
  simp only [Sem.run_bind, hrun, Result.andThen_ok, Sem.run_pure]
  have hl := h2.length
  match xs, vs, h2 with
  | [], vs, h2 => simp only [Reps] at h2; subst h2; exact ⟨_, rfl, by simp [oneOf, Rep, Reps]⟩
  | [x], vs, h2 =>
    simp only [Reps] at h2
    obtain ⟨y, ys, rfl, h3, rfl⟩ := h2
    exact ⟨y, by simp, h3⟩
  | x :: x' :: xs, vs, h2 =>
    have hsz : ¬ vs.toArray.size = 1 := by simp at hl ⊢; omega
    refine ⟨.tuple vs.toArray, by rw [dif_neg hsz], ?_⟩
    simp only [oneOf, Rep]
    exact ⟨_, rfl, by simpa using h2⟩

theorem leave_ok {F : Fence} {n : Nat} {fn : Func} {tmps : Array Value} {R : Ending → World → Prop} {m' : AMem} : ∀ (is : List Nat) {w : World} {m : AMem} {ds : List Deferred}, MarksOk C is ds → Sim C w m → setGone m is = some m' →
    (∀ w', Post C w m C w' m' → LeavesInM F n P fn tmps R [] .returning w') → LeavesInM F n P fn tmps R ds .returning w
  | [], w, m, ds, hm, hS, h, hfin => by
    cases hm; cases h
    exact hfin w (Post.refl hS)
  | i :: is, w, m, ds, ⟨bi, ds', h1, h2, h3⟩, hS, h, hfin => by
    subst h2
    simp only [setGone] at h
    split at h
    · rename_i hb
      split at h
      · rename_i hro
        obtain ⟨bi', g1, g2⟩ := hS.blk _ _ hb
        rw [h1] at g1; cases g1
        have htake := run_takeDeferred (P := P) g2
        have hw := wrote_putObj (o' := .deferred none) g2
        have hP := post_wrote (blk' := .gone) hS h1 hb (by simp) hro hw g2 alike_dfd fun _ => trivial
        refine ⟨by simp, .inl ⟨_, _, rfl, htake, ?_⟩⟩
        exact leave_ok is h3 hP.sim h fun w' hP' => hfin w' (hP.trans hP')
      · cases h
    · cases h

theorem call_ok {n : Nat} (hP : progOk P = true) (hrec : RecOk2 P cfg rec) {f : FuncId} {args : List AV} {m m' : AMem} {r : AV} (h : stepCall P cfg rec n f args m = some (r, m')) {vs : Array Value} (hS : Sim C w m) (hr : Reps C w args vs.toList) (k : Nat) :
    CallsIn Fence.wide k P f vs w (Done C w m r m') := by
  unfold stepCall at h
  split at h
  · rename_i fn c hb
    have hb' : P.funcs[f]? = some fn ∧ fn.body = some c := by
      unfold bodyOf at hb
      split at hb
      · split at hb
        · cases hb; exact ⟨‹_›, ‹_›⟩
        · cases hb
      · cases hb
    have hc := (prog_func hP hb'.1).2 c hb'.2
    have hst : StOk C w { tmps := vs ++ Array.replicate (fn.ntmps - vs.size) undef, defers := [] } { s := args ++ List.replicate (fn.ntmps - args.length) (.v undef), m, marks := [] } := by
      refine ⟨?_, hS, rfl⟩
      have hl := hr.length
      simp only [Array.toList_append, Array.toList_replicate]
      rw [hl, Array.length_toList]
      exact hr.append (Reps.replicate (by simp [Rep]) _)
    have hfin : ∀ {e : AExit} {st : St} {m1 : AMem} {xs : List AV} {a' : Act} {C' : Cx} {w' : World}, setGone st.m st.marks = some m1 → resultsA P st.s m1 fn.results.toList = some xs → Post C w m C' w' st.m → StOk C' w' a' st →
        LeavesInM Fence.wide k P fn a'.tmps (Done C w m (oneOf xs) m1) a'.defers .returning w' := by
      intro e st m1 xs a' C' w' hg hx hP1 hs
      refine leave_ok st.marks hs.marks hs.sim hg fun w'' hP2 => ?_
      obtain ⟨v, g1, g2⟩ := results_ok (Reps.ext hP2.ext _ _ hs.slots) hP2.sim hx
      exact ⟨v, g1, v, C', rfl, hP1.trans hP2, g2⟩
    split at h
    · cases h
    · rename_i e st hne hex
      split at h
      · rename_i m1 hg
        split at h
        · rename_i xs hx
          cases h
          refine callsIn_of_wp_marks hb'.1 hb'.2 trivial ?_
          refine wpIn_mono (exec_ok (ar := none) (k := k) (prog_follows hP) hrec c hex hc hst trivial) ?_
          rintro e' a' w' ⟨C', rfl, hP1, hs⟩
          cases e with
          | normal => exact hfin (e := .normal) hg hx hP1 hs
          | exit id => exact absurd rfl (hne id)
          | ret => exact hfin (e := .ret) hg hx hP1 hs
        · cases h
      · cases h
    · cases h
  · cases h

theorem setParams_ok : ∀ {ps : List (Tmp × AV)} {qs : List (Tmp × Value)} {s : List AV} {tmps : Array Value}, ps.map (·.1) = qs.map (·.1) → Reps C w (ps.map (·.2)) (qs.map (·.2)) → Reps C w s tmps.toList →
    Reps C w (setParams ps s) (qs.foldl (fun tmps (x : Tmp × Value) => tmps.setIfInBounds x.1 x.2) tmps).toList
  | [], qs, s, tmps, hk, _, hs => by
    cases qs with
    | nil => exact hs
    | cons q qs => simp at hk
  | (t, a) :: ps, [], s, tmps, hk, _, _ => by simp at hk
  | (t, a) :: ps, (t', y) :: qs, s, tmps, hk, hv, hs => by
    simp only [List.map_cons, List.cons.injEq] at hk
    obtain ⟨rfl, hk⟩ := hk
    simp only [List.map_cons, Reps] at hv
    obtain ⟨y', ys', e, hx, hv⟩ := hv
    cases e
    simp only [setParams, List.foldl_cons]
    exact setParams_ok hk hv (by simpa using hs.set t hx)

theorem round_ok {n : Nat} (hP : progOk P = true) (hrec : RecOk2 P cfg rec) {id : Nat} {args : List AV} {m m' : AMem} {r : AV} (h : stepRound P cfg rec n id args m = some (r, m')) {vs : Array Value} {bi : BI} {L : Loop} (hS : Sim C w m) (hC : C.blk id = some bi) (hL : w.heap[bi.b]? = some (Obj.loop L)) (hr : Reps C w args vs.toList) :
    vs.size = L.params.size ∧ ∀ k, RoundIn Fence.wide k P bi.b L.fn ((L.params.zip vs).foldl (fun tmps (x : Tmp × Value) => tmps.setIfInBounds x.1 x.2) L.tmps) L.assign L.body w (Done C w m r m') := by
  unfold stepRound at h
  split at h
  · rename_i l hb
    obtain ⟨bi', L', g1, g2, g3, g4, g5, g6, g7, g8, g9, g10⟩ := hS.blk _ _ hb
    rw [hC] at g1; cases g1
    rw [hL] at g2; cases g2
    split at h
    · split at h
      · rename_i hck
        obtain ⟨hlen, hro⟩ := hck
        have hvl := hr.length
        simp only [Array.length_toList] at hvl
        have hsz : vs.size = L.params.size := by rw [← hvl, hlen, g5]
        refine ⟨hsz, fun k => ?_⟩
        split at h
        · rename_i st1 h1
          split at h
          · rename_i l1 hb1
            split at h
            · rename_i hready
              split at h
              · rename_i e st2 h2
                split at h
                · rename_i l2 hb2
                  cases h
                  have hst : StOk C w { tmps := (L.params.zip vs).foldl (fun tmps (x : Tmp × Value) => tmps.setIfInBounds x.1 x.2) L.tmps, defers := [] } { s := setParams (l.params.toList.zip args) l.tmps, m, marks := [] } := by
                    refine ⟨?_, hS, rfl⟩
                    simp only
                    rw [← Array.foldl_toList, Array.toList_zip, g5]
                    have hpl : l.params.toList.length = args.length := by simpa using hlen.symm
                    refine setParams_ok ?_ ?_ g8
                    · rw [List.map_fst_zip (by omega), List.map_fst_zip (by rw [hpl, hvl]; simp)]
                    · rw [List.map_snd_zip (by omega), List.map_snd_zip (by rw [hpl, hvl]; simp)]
                      exact hr
                  refine roundIn_of_wpIn trivial ?_
                  rw [g6]
                  refine wpIn_mono (exec_ok (ar := some bi.b) (k := k) (prog_follows hP) hrec l.assign h1 g9 hst ⟨bi, hC, rfl⟩) ?_
                  rintro e' a1 w1 ⟨C1, rfl, hP1, hs1⟩
                  have hC1 := hP1.ext.blk _ _ hC
                  obtain ⟨bi1, L1, k1, k2, k3, k4, k5, k6, k7, k8, k9, k10⟩ := hs1.sim.blk _ _ hb1
                  rw [hC1] at k1; cases k1
                  have hbegin := run_beginRound (P := P) k2 (by rw [k3]; exact hready)
                  refine ⟨_, hbegin, ?_⟩
                  have hw2 := wrote_putObj (o' := .loop { L1 with state := .busy }) k2
                  have hP2 := post_wrote (blk' := .loop { l1 with state := .busy }) hs1.sim hC1 hb1 (by simp) (by rw [hP1.ro]; exact hro) hw2 k2 alike_loop fun hE => ⟨bi, { L1 with state := .busy }, hC1, hw2.at_, rfl, k4, k5, k6, k7, Reps.ext hE _ _ k8, k9, k10⟩
                  have hs2 : StOk C1 (w1.putObj bi.b (.loop { L1 with state := .busy })) a1 { st1 with m := { st1.m with blks := st1.m.blks.set id (.loop { l1 with state := .busy }) } } := hs1.ext' hP2.ext hP2.sim rfl rfl
                  rw [g7]
                  refine wpIn_mono (exec_ok (ar := some bi.b) (k := k) (prog_follows hP) hrec l.body h2 g10 hs2 ⟨bi, hC1, rfl⟩) ?_
                  rintro e' a3 w3 ⟨C3, rfl, hP3, hs3⟩
                  have hC3 := hP3.ext.blk _ _ hC1
                  obtain ⟨bi3, L3, q1, q2, q3, q4, q5, q6, q7, q8, q9, q10⟩ := hs3.sim.blk _ _ hb2
                  rw [hC3] at q1; cases q1
                  have hfin : ∀ (jump : Option Code), (endOf l2 e).state = (if jump.isNone then .ready else .done) → (endOf l2 e).pending = jump → isNormal e = jump.isNone → (endOf l2 e).tmps = l2.tmps → (endOf l2 e).params = l2.params → (endOf l2 e).assign = l2.assign → (endOf l2 e).body = l2.body →
                      ∃ v w', (Instr.endRound bi.b jump).run P w3 = .ok v w' ∧ Done C w m (.v (.bool (isNormal e))) ({ st2.m with blks := st2.m.blks.set id (.loop (endOf l2 e)) }.shrink m.blks.length) (.returned v) w' := by
                    intro jump e1 e2 e3 e4 e5 e6 e7
                    have hend := run_endRound (P := P) jump q2
                    have hw4 := wrote_putObj (o' := .loop { L3 with state := if jump.isNone then .ready else .done, pending := jump }) q2
                    have hP4 := post_wrote (blk' := .loop (endOf l2 e)) hs3.sim hC3 hb2 (by simp) (by rw [hP3.ro]; show st1.m.ro ≤ id; rw [hP1.ro]; exact hro) hw4 q2 alike_loop fun hE =>
                      ⟨bi, { L3 with state := if jump.isNone then .ready else .done, pending := jump }, hC3, hw4.at_, e1.symm, e2.symm, by rw [e5]; exact q5, by rw [e6]; exact q6, by rw [e7]; exact q7, by rw [e4]; exact Reps.ext hE _ _ q8, by rw [e6]; exact q9, by rw [e7]; exact q10⟩
                    have hP5 := ((hP1.trans hP2).trans hP3).trans hP4
                    obtain ⟨hP6, _⟩ := meth_back (n := m.blks.length) hS hP5 (Nat.le_refl _) hP5.len
                    exact ⟨_, _, hend, _, _, rfl, hP6, by rw [e3]; simp [Rep]⟩
                  cases e with
                  | normal => exact hfin none rfl rfl rfl rfl rfl rfl rfl
                  | ret => exact hfin (some .ret) rfl rfl rfl rfl rfl rfl rfl
                  | exit i => exact hfin (some (.exit i)) rfl rfl rfl rfl rfl rfl rfl
                · cases h
              · cases h
            · cases h
          · cases h
        · cases h
      · cases h
    · cases h
  · cases h

/-- **The abstract interpreter is sound.** -/
theorem den_ok (hP : progOk P = true) (hp : PrimOk P cfg) : ∀ n, RecOk P (den P cfg n)
  | 0 => ⟨fun _ _ _ _ _ h => (by cases h), fun _ _ _ _ _ h => (by cases h), fun _ _ _ _ _ h => (by cases h), fun _ _ _ _ _ h => (by cases h)⟩
  | n + 1 => by
    have ih : RecOk2 P cfg (den P cfg n) := ⟨den_ok hP hp n, hp⟩
    refine ⟨fun f args m r m' h => ?_, fun f args m r m' h C w vs hS hr k => call_ok hP ih h hS hr k, fun id args m r m' h => ?_, fun id args m r m' h C w vs bi L hS hC hL hr => round_ok hP ih h hS hC hL hr⟩
    · have h' : stepCall P cfg (den P cfg n) n f args m = some (r, m') := h
      unfold stepCall at h'
      split at h'
      · rename_i fn c hb
        unfold bodyOf at hb
        split at hb
        · rename_i fn' hf
          split at hb
          · rename_i c' hc
            cases hb
            exact ⟨_, _, hf, hc, (prog_func hP hf).1⟩
          · cases hb
        · cases hb
      · cases h'
    · have h' : stepRound P cfg (den P cfg n) n id args m = some (r, m') := h
      unfold stepRound at h'
      split at h'
      · rename_i l hb; exact ⟨l, hb⟩
      · cases h'

end
end Go.Den
