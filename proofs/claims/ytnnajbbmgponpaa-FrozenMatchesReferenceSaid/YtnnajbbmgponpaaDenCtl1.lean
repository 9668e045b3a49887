/-
  One operation of a region, calls among them. Conditions: as each statement says.
-/
import Derived.Test.YtnnajbbmgponpaaDenOps9
import Derived.Test.YtnnajbbmgponpaaDenRet
namespace Go.Den

/-- The fence of a function's own activation, or of a round of the loop l. -/
def Fa : Option Nat → Fence
  | none => Fence.wide
  | some l => Fence.wide.inRound l

theorem Fa_fn (ar : Option Nat) (f : FuncId) : (Fa ar).fn f := by cases ar <;> trivial
theorem Fa_depth (ar : Option Nat) : (Fa ar).depth = none := by cases ar <;> rfl
theorem Fa_round (ar : Option Nat) : (Fa ar).round = ar := by cases ar <;> rfl

theorem callsIn_Fa {ar : Option Nat} {k : Nat} {P : Program} {f : FuncId} {vs : Array Value} {w : World} {R : Ending → World → Prop} (h : CallsIn Fence.wide k P f vs w R) : CallsIn (Fa ar) k P f vs w R := by
  cases ar with
  | none => exact h
  | some l => exact h

theorem roundIn_Fa {ar : Option Nat} {k : Nat} {P : Program} {l : Nat} {f : FuncId} {tmps : Array Value} {x y : Code} {w : World} {R : Ending → World → Prop} (h : RoundIn Fence.wide k P l f tmps x y w R) : RoundIn (Fa ar) k P l f tmps x y w R := by
  cases ar with
  | none => exact h
  | some l => exact h

def Done (C : Cx) (w : World) (m : AMem) (r : AV) (m' : AMem) (e : Ending) (w' : World) : Prop := ∃ v C', e = .returned v ∧ Post C w m C' w' m' ∧ Rep C' w' r v

structure RecOk (P : Program) (rec : Task → AMem → Option (AV × AMem)) : Prop where
  body : ∀ f args m r m', rec (.call f args) m = some (r, m') → ∃ fn c, P.funcs[f]? = some fn ∧ fn.body = some c ∧ (fn.name == "runtime.NumGoroutine") = false
  call : ∀ f args m r m', rec (.call f args) m = some (r, m') → ∀ (C : Cx) (w : World) (vs : Array Value), Sim C w m → Reps C w args vs.toList → ∀ k, CallsIn Fence.wide k P f vs w (Done C w m r m')
  loop : ∀ id args m r m', rec (.round id args) m = some (r, m') → ∃ l, m.blks[id]? = some (.loop l)
  round : ∀ id args m r m', rec (.round id args) m = some (r, m') → ∀ (C : Cx) (w : World) (vs : Array Value) (bi : BI) (L : Loop), Sim C w m → C.blk id = some bi → w.heap[bi.b]? = some (Obj.loop L) → Reps C w args vs.toList →
    vs.size = L.params.size ∧ ∀ k, RoundIn Fence.wide k P bi.b L.fn ((L.params.zip vs).foldl (fun tmps (x : Tmp × Value) => tmps.setIfInBounds x.1 x.2) L.tmps) L.assign L.body w (Done C w m r m')

/-- Functions that are not looked into do what is said of them. -/
def PrimOk (P : Program) (cfg : FuncId → FCfg) : Prop := ∀ g k, (cfg g).pol = .prim k → ∀ args m r m', primA k args m = some (r, m') →
  (∃ fn c, P.funcs[g]? = some fn ∧ fn.body = some c ∧ (fn.name == "runtime.NumGoroutine") = false) ∧
  ∀ (C : Cx) (w : World) (vs : Array Value), Sim C w m → Reps C w args vs.toList → ∀ k, CallsIn Fence.wide k P g vs w (Done C w m r m')

structure RecOk2 (P : Program) (cfg : FuncId → FCfg) (rec : Task → AMem → Option (AV × AMem)) : Prop where
  base : RecOk P rec
  prim : PrimOk P cfg

def MarksOk (C : Cx) : List Nat → List Deferred → Prop
  | [], ds => ds = []
  | id :: is, ds => ∃ bi ds', C.blk id = some bi ∧ ds = { target := .collected bi.b, args := #[] } :: ds' ∧ MarksOk C is ds'

theorem MarksOk.ext {C C' : Cx} {w w' : World} (h : Ext C w C' w') : ∀ {is : List Nat} {ds : List Deferred}, MarksOk C is ds → MarksOk C' is ds
  | [], _, hm => hm
  | _ :: _, _, ⟨bi, ds', h1, h2, h3⟩ => ⟨bi, ds', h.blk _ _ h1, h2, MarksOk.ext h h3⟩

structure StOk (C : Cx) (w : World) (a : Act) (st : St) : Prop where
  slots : Reps C w st.s a.tmps.toList
  sim : Sim C w st.m
  marks : MarksOk C st.marks a.defers

theorem ev_ok {C : Cx} {w : World} {a : Act} {s : List AV} (h : Reps C w s a.tmps.toList) (x : Operand) : Rep C w (ev s x) (a.eval x) := by
  cases x with
  | tmp t =>
    simp only [ev, Act.eval]
    rw [List.getD_eq_getElem?_getD]
    cases hs : s[t]? with
    | none =>
      have hl := h.length
      have hge := List.getElem?_eq_none_iff.1 hs
      simp only [Array.length_toList] at hl
      have : a.tmps[t]? = none := by simp; omega
      rw [Array.getD_eq_getD_getElem?, this]; simp [Rep]
    | some x =>
      obtain ⟨y, hy, hr⟩ := h.get hs
      have : a.tmps[t]? = some y := by simpa using hy
      rw [Array.getD_eq_getD_getElem?, this]
      exact hr
  | const v => exact rep_ofV C w v
  | global g => exact rep_any C w _
  | func f => simp [ev, Act.eval, Rep, Reps]

theorem put_ok {C : Cx} {w : World} {a : Act} {s : List AV} (h : Reps C w s a.tmps.toList) (d : Option Tmp) {x : AV} {v : Value} (hx : Rep C w x v) : Reps C w (put s d x) (a.put d v).tmps.toList := by
  cases d with
  | none => exact h
  | some d => simp only [put, Act.put, Array.toList_setIfInBounds]; exact h.set d hx

theorem put_defers (a : Act) (d : Option Tmp) (v : Value) : (a.put d v).defers = a.defers := by cases d <;> rfl

theorem wanted_ok {C : Cx} {w : World} {a : Act} {s : List AV} {ops : Array Oper} {o : Oper} {b : Bool} (h : Reps C w s a.tmps.toList) (hw : wantedA ops.toList s o = some b) : Region.wanted o (yielded ops a.tmps) = b := by
  unfold wantedA at hw
  unfold Region.wanted
  split at hw
  · rename_i hg; cases hw; simp [hg]
  · rename_i j want hg
    rw [hg]
    simp only
    split at hw
    · rename_i d hd
      have hd' : (ops[j]?).bind (·.dst) = some d := by simpa using hd
      split at hw
      · rename_i c hc
        cases hw
        obtain ⟨y, hy, hr⟩ := h.get hc
        simp only [Rep] at hr; subst hr
        have : a.tmps[d]? = some (.bool c) := by simpa using hy
        simp [yielded, hd', this]
      · rename_i x hx hc
        cases hw
        obtain ⟨y, hy, hr⟩ := h.get hc
        simp only [Rep] at hr; subst hr
        have : a.tmps[d]? = some y := by simpa using hy
        have hn : yielded ops a.tmps j = none := by
          simp only [yielded, hd', Option.bind_some, this]
          cases y <;> first | rfl | exact absurd rfl (hx _)
        simp [hn]
      · cases hw
    · cases hw

theorem sim_ro {C : Cx} {w : World} {m : AMem} (hS : Sim C w m) : Sim C w { m with ro := m.blks.length, live := [] } :=
  ⟨hS.dom, hS.lt, hS.blk, fun i j bi bj hi hj e hl => ⟨(hS.inj i j bi bj hi hj e hl).1, by have := hS.dom i bi hi; have := hS.dom j bj hj; simp only []; omega⟩, hS.nimm, hS.immlt, hS.tlt, fun t ht => by simp at ht, fun t _ _ _ _ ht => by simp at ht, List.nodup_nil, Nat.le_refl _⟩

section
variable {P : Program} {C : Cx} {w : World} {cfg : FuncId → FCfg} {rec : Task → AMem → Option (AV × AMem)}

theorem run_callFunc {f : FuncId} {fn : Func} {c : Code} {args : Array Value} (h1 : P.funcs[f]? = some fn) (h2 : fn.body = some c) (h3 : (fn.name == "runtime.NumGoroutine") = false) : (callFunc f args).run P w = .ok (.enter f args) w := by
  simp only [callFunc, Sem.run_bind, run_program, Result.andThen_ok, h1]
  simp [h2, h3]

/-- A call of a function by whatever policy. -/
theorem callReq_ok {g : FuncId} {args : List AV} {vs : Array Value} {m m' : AMem} {x : AV} {acc : Acc} (hrec2 : RecOk2 P cfg rec) (hrun : (callReq cfg rec g args).run m = some (x, m', acc)) (hS : Sim C w m) (hr : Reps C w args vs.toList) (k : Nat) :
    (∃ fn c, P.funcs[g]? = some fn ∧ fn.body = some c ∧ (fn.name == "runtime.NumGoroutine") = false) ∧ CallsIn Fence.wide k P g vs w (Done C w m x m') := by
  have hrec := hrec2.base
  unfold callReq at hrun
  split at hrun
  · simp only [Req.run, Option.map_eq_some_iff] at hrun
    obtain ⟨y, hk, e⟩ := hrun
    cases e
    split at hk
    · rename_i r m1 hcall
      cases hk
      refine ⟨hrec.body _ _ _ _ _ hcall, (hrec.call _ _ _ _ _ hcall C w vs (sim_ro hS) hr k).mono ?_⟩
      rintro e w' ⟨v, C', rfl, hP, hv⟩
      obtain ⟨h1, h2⟩ := pure_back hS hP hv
      exact ⟨v, _, rfl, h1, h2⟩
    · cases hk
  · simp only [Req.run, Option.map_eq_some_iff] at hrun
    obtain ⟨⟨y, m2⟩, hk, e⟩ := hrun
    cases e
    split at hk
    · rename_i r m1 hcall
      cases hk
      refine ⟨hrec.body _ _ _ _ _ hcall, (hrec.call _ _ _ _ _ hcall C w vs hS hr k).mono ?_⟩
      rintro e w' ⟨v, C', rfl, hP, hv⟩
      obtain ⟨h1, h2⟩ := meth_back hS hP (Nat.le_refl _) hP.len
      exact ⟨v, _, rfl, h1, conv_ok hP.sim h2 _ _ hv⟩
    · cases hk
  · simp only [Req.run, Option.map_eq_some_iff] at hrun
    obtain ⟨⟨y, m2⟩, hk, e⟩ := hrun
    cases e
    exact ⟨hrec.body _ _ _ _ _ hk, hrec.call _ _ _ _ _ hk C w vs hS hr k⟩
  · rename_i kk hpol
    simp only [Req.run, Option.map_eq_some_iff] at hrun
    obtain ⟨⟨y, m2⟩, hk, e⟩ := hrun
    cases e
    obtain ⟨h1, h2⟩ := hrec2.prim g kk hpol _ _ _ _ hk
    exact ⟨h1, h2 C w vs hS hr k⟩

theorem defer_none {ρ : Operand → AV} {fresh : Nat} {o : Op} {r : Req} (h : req P cfg rec ρ fresh o = some r) (c : Call) : o ≠ .defer c := by
  rintro rfl; simp [req] at h

theorem ex1_ok {ops : Array Oper} {i fresh k : Nat} {ar : Option Nat} {o : Oper} {st st' : St} {acc : Acc} {a : Act} (hex : ex1 P cfg rec ops.toList fresh o st = some (st', acc)) (hst : StOk C w a st) (hrec2 : RecOk2 P cfg rec) (hi : ops[i]? = some o)
    {K : Act → World → Prop} {Q : Exit → Act → World → Prop} (hK : ∀ a' w' C', Post C w st.m C' w' st'.m → StOk C' w' a' st' → K a' w') : wpOpIn (Fa ar) k P ops Q i K a w := by
  have hrec := hrec2.base
  unfold wpOpIn
  rw [hi]
  simp only
  unfold ex1 at hex
  split at hex
  · rename_i hw
    rw [wanted_ok hst.slots hw, if_pos rfl]
    refine ⟨fun f _ => Fa_fn ar f, ?_⟩
    split at hex
    · rename_i r hr
      split at hex
      · rename_i x m' acc' hrun
        cases hex
        rw [Oper.semAt_eq _ _ _ fun c => defer_none hr c]
        have hfin : ∀ v w' C', Post C w st.m C' w' m' → Rep C' w' x v → K (a.put o.dst v) w' := fun v w' C' hP hv =>
          hK _ _ C' hP ⟨put_ok (Reps.ext hP.ext _ _ hst.slots) _ hv, hP.sim, by rw [put_defers]; exact hst.marks.ext hP.ext⟩
        by_cases hc : ∃ c f, o.op = .call c ∧ c.callee = .value f
        · obtain ⟨c, f, ho, hcf⟩ := hc
          rw [ho] at hr
          simp only [req, callOf, hcf] at hr
          have hf := ev_ok hst.slots f
          have hargs := reps_map (f := ev st.s) (g := a.eval) (fun x => ev_ok hst.slots x) c.args.toList
          split at hr
          · -- a function
            rename_i g first cap hev
            cases hr
            rw [hev] at hf
            simp only [Rep] at hf
            obtain ⟨fs, cs, hfv, hr1, hr2⟩ := hf
            have hall : Reps C w (first ++ c.args.toList.map (ev st.s) ++ cap) (fs ++ c.args.map a.eval ++ cs).toList := by
              simpa using (hr1.append hargs).append hr2
            obtain ⟨⟨fn, cd, b1, b2, b3⟩, hcall⟩ := callReq_ok hrec2 hrun hst.sim hall (k - 1)
            have hex : (execOp a.eval o).run P w = .ok (.enter g (fs ++ c.args.map a.eval ++ cs)) w := by
              simp only [execOp, ho, resolve, hcf, hfv, Deferred.ofValue, pure_bind, invoke]
              exact run_callFunc b1 b2 b3
            rw [hex]
            refine ⟨fun h => (by rw [Fa_depth] at h; cases h), callsIn_Fa (hcall.mono ?_)⟩
            rintro e w' ⟨v, C', rfl, hP, hv⟩
            exact hfin v w' C' hP hv
          · -- a round
            rename_i id hev
            cases hr
            simp only [Req.run, Option.map_eq_some_iff] at hrun
            obtain ⟨⟨y, m2⟩, hk, e⟩ := hrun
            cases e
            rw [hev] at hf
            simp only [Rep] at hf
            obtain ⟨bi, hC, hfv⟩ := hf
            have hblk : ∃ L, w.heap[bi.b]? = some (Obj.loop L) := by
              obtain ⟨l, hl⟩ := hrec.loop _ _ _ _ _ hk
              obtain ⟨bi', L, g1, g2, _⟩ := hst.sim.blk _ _ hl
              rw [hC] at g1; cases g1
              exact ⟨L, g2⟩
            obtain ⟨L, hL⟩ := hblk
            obtain ⟨hsz, hround⟩ := hrec.round _ _ _ _ _ hk C w (c.args.map a.eval) bi L hst.sim hC hL (by simpa using hargs)
            have hex : (execOp a.eval o).run P w = .ok (.round bi.b L.fn ((L.params.zip (c.args.map a.eval)).foldl (fun tmps (x : Tmp × Value) => tmps.setIfInBounds x.1 x.2) L.tmps) L.assign L.body) w := by
              simp only [execOp, ho, resolve, hcf, hfv, Deferred.ofValue, pure_bind, invoke]
              have hgl : (Instr.getLoop bi.b).run P w = .ok L w := by simp [Instr.getLoop, getObj, Sem.run, hL]
              have hsz' : ¬ ((c.args.map a.eval).size ≠ L.params.size) := by omega
              simp only [Instr.yield, Sem.run_bind, hgl, Result.andThen_ok]
              simp at hsz'
              simp [hsz']
            rw [hex]
            refine ⟨fun h => (by rw [Fa_depth] at h; cases h), roundIn_Fa ((hround (k - 1)).mono ?_)⟩
            rintro e w' ⟨v, C', rfl, hP, hv⟩
            exact hfin v w' C' hP hv
          · cases hr
        · obtain ⟨v, w', hrun', C', hP, hv⟩ := req_ok (o := o) (fun x => ev_ok hst.slots x) (fun x => rfl) hr (fun c f h1 h2 => hc ⟨c, f, h1, h2⟩) hrun hst.sim
          rcases hrun' with hrun' | ⟨hrun', rfl⟩
          · rw [hrun']; exact hfin v w' C' hP hv
          · rw [hrun']; exact hfin undef w' C' hP hv
      · cases hex
    · cases hex
  · rename_i hw
    cases hex
    rw [wanted_ok hst.slots hw, if_neg (by simp)]
    exact ⟨fun f _ => Fa_fn ar f, hK _ _ C (Post.refl hst.sim) ⟨put_ok hst.slots _ (by simp [Rep]), hst.sim, by rw [put_defers]; exact hst.marks⟩⟩
  · cases hex
end
end Go.Den
