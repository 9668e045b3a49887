/-
  What every operation but a call of a function comes to. Conditions: as each statement says.
-/
import Derived.Test.YtnnajbbmgponpaaDenOps8
namespace Go.Den

def OpOk (P : Program) (s : Sem Next) (w : World) (Q : Value → World → Prop) : Prop :=
  ∃ v w', (s.run P w = .ok (.value v) w' ∨ (s.run P w = .ok .skip w' ∧ v = undef)) ∧ Q v w'

section
variable {P : Program} {C : Cx} {w : World} {cfg : FuncId → FCfg} {rec : Task → AMem → Option (AV × AMem)}

theorem VOk.op {s : Sem Value} {Q : Value → World → Prop} (h : VOk P s w Q) : OpOk P (do pure (.value (← s))) w Q := by
  obtain ⟨v, w', h1, h2⟩ := h
  exact ⟨v, w', .inl (by simp [h1]), h2⟩

theorem UOk.op {s : Sem Unit} {Q : Value → World → Prop} (h : UOk P s w (Q undef)) : OpOk P (do s; pure .skip) w Q := by
  obtain ⟨w', h1, h2⟩ := h
  exact ⟨undef, w', .inr ⟨by simp [h1], rfl⟩, h2⟩

theorem VOk.mono {s : Sem Value} {Q R : Value → World → Prop} (h : VOk P s w Q) (hq : ∀ v w', Q v w' → R v w') : VOk P s w R := by
  obtain ⟨v, w', h1, h2⟩ := h
  exact ⟨v, w', h1, hq _ _ h2⟩

/-- A value that no memory is asked for. -/
theorem val_run {x y : AV} {m m' : AMem} {acc : Acc} (h : (Req.val x).run m = some (y, m', acc)) : y = x ∧ m' = m := by
  cases h; exact ⟨rfl, rfl⟩

theorem VOk.val {s : Sem Value} {x y : AV} {m m' : AMem} {acc : Acc} (hS : Sim C w m) (h : VOk P s w fun v w' => w' = w ∧ Rep C w x v) (hrun : (Req.val x).run m = some (y, m', acc)) :
    VOk P s w fun v w' => ∃ C', Post C w m C' w' m' ∧ Rep C' w' y v := by
  obtain ⟨rfl, rfl⟩ := val_run hrun
  obtain ⟨v, w', h1, rfl, h3⟩ := h
  exact ⟨v, w', h1, C, Post.refl hS, h3⟩

theorem reps_map {α : Type} {f : α → AV} {g : α → Value} (h : ∀ a, Rep C w (f a) (g a)) (l : List α) : Reps C w (l.map f) (l.map g) :=
  Reps.mk (by simp) fun i a y ha hy => by
    rw [List.getElem?_map] at ha hy
    cases hl : l[i]? with
    | none => simp [hl] at ha
    | some u => simp [hl] at ha hy; subst ha; subst hy; exact h u

theorem builtin_ok {b : Builtin} {ts : Array TypeId} {ty : TypeId} {cs : Array Bool} {as : List AV} {args : Array Value} {r : Req} {m m' : AMem} {y : AV} {acc : Acc} (hq : builtinReq P cfg b ts.toList as = some r) (hrun : r.run m = some (y, m', acc)) (hS : Sim C w m)
    (ha : Reps C w as args.toList) : OpOk P (builtin b ts ty cs args) w fun v w' => ∃ C', Post C w m C' w' m' ∧ Rep C' w' y v := by
  unfold builtinReq at hq
  split at hq
  · rename_i t rest x hts
    have h0 : ts[0]? = some t := by rw [← Array.getElem?_toList, hts]; rfl
    simp only [Reps] at ha
    obtain ⟨y1, l1, e1, hx, e3⟩ := ha
    subst e3
    have hr : args = #[y1] := by rw [← Array.toArray_toList (xs := args), e1]
    subst hr
    exact (len_ok (ty := ty) h0 hq hrun hS hx).op
  · rename_i t u s x hts
    split at hq
    · rename_i htu
      subst htu
      have hts' : ts = #[t, t] := by rw [← Array.toArray_toList (xs := ts), hts]
      simp only [Reps] at ha
      obtain ⟨y1, l1, e1, hs, y2, l2, e2, hx, e3⟩ := ha
      subst e2; subst e3
      have hr : args = #[y1, y2] := by rw [← Array.toArray_toList (xs := args), e1]
      subst hr; subst hts'
      cases hv : isVec cfg t with
      | true => rw [hv] at hq; exact (appendVec_ok (ty := ty) hq hrun hS hs hx).op
      | false => rw [hv] at hq; exact (append_ok (ty := ty) hq hrun hS hs hx).op
    · cases hq
  · rename_i t rest d x hts
    have h0 : ts[0]? = some t := by rw [← Array.getElem?_toList, hts]; rfl
    simp only [Reps] at ha
    obtain ⟨y1, l1, e1, hs, y2, l2, e2, hx, e3⟩ := ha
    subst e2; subst e3
    have hr : args = #[y1, y2] := by rw [← Array.toArray_toList (xs := args), e1]
    subst hr
    exact (copy_ok (ty := ty) h0 hq hrun hS hs hx).op
  · rw [Option.map_eq_some_iff] at hq
    obtain ⟨z, hz, rfl⟩ := hq
    simp only [Reps] at ha
    obtain ⟨y1, l1, e1, hs, y2, l2, e2, hx, e3⟩ := ha
    subst e2; subst e3
    have hr : args = #[y1, y2] := by rw [← Array.toArray_toList (xs := args), e1]
    subst hr
    exact (VOk.val hS (max_ok hz hs hx) hrun).op
  · rw [Option.map_eq_some_iff] at hq
    obtain ⟨z, hz, rfl⟩ := hq
    simp only [Reps] at ha
    obtain ⟨y1, l1, e1, hs, y2, l2, e2, hx, e3⟩ := ha
    subst e2; subst e3
    have hr : args = #[y1, y2] := by rw [← Array.toArray_toList (xs := args), e1]
    subst hr
    exact (VOk.val hS (min_ok hz hs hx) hrun).op
  · cases hq

theorem wr_run {id : Nat} {k : ABlk → Option (ABlk × AV)} {m m' : AMem} {y : AV} {acc : Acc} (h : (Req.wr id k).run m = some (y, m', acc)) :
    ∃ b b', m.ro ≤ id ∧ m.blks[id]? = some b ∧ k b = some (b', y) ∧ m' = { m with blks := m.blks.set id b' } := by
  simp only [Req.run] at h
  split at h
  · rename_i hro
    split at h
    · rename_i b hb
      rw [Option.map_eq_some_iff] at h
      obtain ⟨⟨b', y'⟩, hk, e⟩ := h
      cases e
      exact ⟨b, b', hro, hb, hk, rfl⟩
    · cases h
  · cases h

theorem rd_run {id : Nat} {k : ABlk → Option AV} {m m' : AMem} {y : AV} {acc : Acc} (h : (Req.rd id k).run m = some (y, m', acc)) : ∃ b, m.blks[id]? = some b ∧ k b = some y ∧ m' = m := by
  simp only [Req.run] at h
  split at h
  · rename_i b hb
    rw [Option.map_eq_some_iff] at h
    obtain ⟨y', hk, e⟩ := h
    cases e
    exact ⟨b, hb, hk, rfl⟩
  · cases h

theorem repP_map {ρA : Operand → AV} {ρ : Operand → Value} (hρ : ∀ a, Rep C w (ρA a) (ρ a)) (ps : Array (Nat × Operand)) :
    RepP C w (ps.toList.map fun x => (x.1, ρA x.2)) (ps.map fun x => (x.1, ρ x.2)).toList := by
  refine ⟨by simp, ?_⟩
  simp only [List.map_map, Array.toList_map]
  exact reps_map (f := fun x : Nat × Operand => ρA x.2) (g := fun x : Nat × Operand => ρ x.2) (fun a => hρ a.2) _

theorem repO_map {ρA : Operand → AV} {ρ : Operand → Value} (hρ : ∀ a, Rep C w (ρA a) (ρ a)) (x : Option Operand) : RepO C w (x.map ρA) (x.map ρ) := by
  cases x with
  | none => trivial
  | some x => exact hρ x

theorem load_ok {t : TypeId} {xa : AV} {x : Value} {r : Req} {m m' : AMem} {y : AV} {acc : Acc}
    (hq : (match xa with
      | .ref id i off => some (Req.rd id fun b => match b with
          | .arr es _ => (es[i]?).bind fun e => partE P t e off
          | .vec es _ => (es[i]?).bind fun e => partE P t e off
          | _ => none)
      | .eref e => (partE P t e 0).map Req.val
      | _ => none) = some r) (hrun : r.run m = some (y, m', acc)) (hS : Sim C w m) (hx : Rep C w xa x) :
    VOk P (Instr.loadAt t x) w fun v w' => ∃ C', Post C w m C' w' m' ∧ Rep C' w' y v := by
  split at hq
  · rename_i id i off
    cases hq
    obtain ⟨b, hb, hk, rfl⟩ := rd_run hrun
    split at hk
    · rename_i es sz
      rw [Option.bind_eq_some_iff] at hk
      obtain ⟨e, he, hp⟩ := hk
      simp only [Rep] at hx
      obtain ⟨bi, hC, rfl⟩ := hx
      obtain ⟨b0, arr, e0, g1, g2, g3, g4⟩ := hS.blk id _ hb
      rw [hC] at g1; cases g1
      obtain ⟨v, h1, h2, h3⟩ := g4.get he
      simp only [Nat.zero_add] at h3
      unfold partE at hp
      split at hp
      · rename_i hpl
        obtain ⟨hr, _⟩ := rep_cells hpl h1
        obtain ⟨u, hu1, hu2, _⟩ := run_part (P := P) (off := off) hr h3 hp
        exact .of (v := u) (w' := w) (by simp [Instr.loadAt, Instr.sureAddr, hu1]) ⟨C, Post.refl hS, hu2⟩
      · cases hp
    · rename_i es sz
      rw [Option.bind_eq_some_iff] at hk
      obtain ⟨e, he, hp⟩ := hk
      simp only [Rep] at hx
      obtain ⟨bi, hC, rfl⟩ := hx
      obtain ⟨b0, cnt, arr, e0, g1, g2, g3, g4', g4'', g4⟩ := hS.blk id _ hb
      rw [hC] at g1; cases g1
      obtain ⟨v, h1, h2, h3⟩ := g4.get he
      simp only [Nat.zero_add] at h3
      unfold partE at hp
      split at hp
      · rename_i hpl
        obtain ⟨hr, _⟩ := rep_cells hpl h1
        obtain ⟨u, hu1, hu2, _⟩ := run_part (P := P) (off := off) hr h3 hp
        exact .of (v := u) (w' := w) (by simp [Instr.loadAt, Instr.sureAddr, hu1]) ⟨C, Post.refl hS, hu2⟩
      · cases hp
    · cases hk
  · rename_i e
    rw [Option.map_eq_some_iff] at hq
    obtain ⟨q, hq, rfl⟩ := hq
    obtain ⟨rfl, rfl⟩ := val_run hrun
    obtain ⟨b, o, rfl, v, h1, h2, _⟩ := part_eref hq hx
    rw [Nat.add_zero] at h1
    exact .of (v := v) (w' := w) (by simp [Instr.loadAt, Instr.sureAddr, h1]) ⟨C, Post.refl hS, h2⟩
  · cases hq

theorem store_ok {t : TypeId} {xa ya : AV} {x y : Value} {r : Req} {m m' : AMem} {z : AV} {acc : Acc}
    (hq : (match xa with
      | .ref id i off => some (Req.wr id fun b => match b with
          | .arr es sz => (es[i]?).bind fun e => (storeIn P t e off sz ya).map fun e' => (ABlk.arr (es.set i e') sz, AV.v undef)
          | .vec es sz => (es[i]?).bind fun e => (storeIn P t e off sz ya).map fun e' => (ABlk.vec (es.set i e') sz, AV.v undef)
          | _ => none)
      | _ => none) = some r) (hrun : r.run m = some (z, m', acc)) (hS : Sim C w m) (hx : Rep C w xa x) (hy : Rep C w ya y) :
    UOk P (Instr.storeAt t x y) w fun w' => ∃ C', Post C w m C' w' m' ∧ Rep C' w' z undef := by
  split at hq
  · rename_i id i off
    cases hq
    obtain ⟨b, b', hro, hb, hk, rfl⟩ := wr_run hrun
    split at hk
    · rename_i es sz
      rw [Option.bind_eq_some_iff] at hk
      obtain ⟨e, he, hk⟩ := hk
      rw [Option.map_eq_some_iff] at hk
      obtain ⟨e', hst, hk⟩ := hk
      cases hk
      simp only [Rep] at hx
      obtain ⟨bi, hC, rfl⟩ := hx
      obtain ⟨w', h1, h2⟩ := run_store_elem (P := P) hS hro hb he hst hy hC
      exact ⟨w', by simp [Instr.storeAt, Instr.sureAddr, h1], C, h2, by simp [Rep]⟩
    · rename_i es sz
      rw [Option.bind_eq_some_iff] at hk
      obtain ⟨e, he, hk⟩ := hk
      rw [Option.map_eq_some_iff] at hk
      obtain ⟨e', hst, hk⟩ := hk
      cases hk
      simp only [Rep] at hx
      obtain ⟨bi, hC, rfl⟩ := hx
      obtain ⟨w', h1, h2⟩ := run_store_vec (P := P) hS hro hb he hst hy hC
      exact ⟨w', by simp [Instr.storeAt, Instr.sureAddr, h1], C, h2, by simp [Rep]⟩
    · cases hk
  · cases hq

theorem req_ok {o : Oper} {ρA : Operand → AV} {ρ : Operand → Value} {fresh : Nat} {r : Req} {m m' : AMem} {x : AV} {acc : Acc} (hρ : ∀ a, Rep C w (ρA a) (ρ a)) (hcst : ∀ x, ρ (.const x) = x) (hq : req P cfg rec ρA fresh o.op = some r)
    (hnc : ∀ c f, o.op = .call c → c.callee ≠ .value f) (hrun : r.run m = some (x, m', acc)) (hS : Sim C w m) :
    OpOk P (execOp ρ o) w fun v w' => ∃ C', Post C w m C' w' m' ∧ Rep C' w' x v := by
  cases ho : o.op with
  | move a =>
    rw [ho] at hq; cases hq
    obtain ⟨rfl, rfl⟩ := val_run hrun
    exact ⟨ρ a, w, .inl (by simp [execOp, ho]), C, Post.refl hS, hρ a⟩
  | assign a =>
    rw [ho] at hq; cases hq
    obtain ⟨rfl, rfl⟩ := val_run hrun
    exact ⟨ρ a, w, .inl (by simp [execOp, ho]), C, Post.refl hS, hρ a⟩
  | pick c a b =>
    rw [ho] at hq; simp only [req] at hq
    split at hq
    · rename_i t hc
      cases hq
      obtain ⟨rfl, rfl⟩ := val_run hrun
      have h1 := hρ c; rw [hc] at h1; simp only [Rep] at h1
      refine ⟨cond t (ρ a) (ρ b), w, .inl (by cases t <;> simp [execOp, ho, h1, asBool]), C, Post.refl hS, ?_⟩
      cases t
      · exact hρ b
      · exact hρ a
    · cases hq
  | alloc elem =>
    rw [ho] at hq; simp only [req] at hq
    split at hq
    · rename_i z hz
      split at hq
      · cases hq
      · rename_i hp
        cases hq
        obtain ⟨b, b', hro, hb, hk, rfl⟩ := wr_run hrun
        split at hk
        · cases hk
          obtain ⟨zv, rfl, hzv⟩ := run_zero (w := w) hz
          obtain ⟨w', h1, h2⟩ := run_newVar (P := P) elem hS hb hro (by simpa using hp) (rep_ofV C w zv)
          refine ⟨.pointer (some ⟨w.heap.size, 0, none⟩), w', .inl (by simp [execOp, ho, Instr.alloc, hzv, h1]), _, h2, ?_⟩
          simp only [Rep]
          exact ⟨_, by simp [Cx.setBlk]; rfl, by simp⟩
        · cases hk
    · cases hq
  | box elem a =>
    rw [ho] at hq; simp only [req] at hq
    split at hq
    · rename_i hp
      cases hq
      obtain ⟨b, b', hro, hb, hk, rfl⟩ := wr_run hrun
      split at hk
      · cases hk
        obtain ⟨w', h1, h2⟩ := run_newVar (P := P) elem hS hb hro hp (hρ a)
        refine ⟨.pointer (some ⟨w.heap.size, 0, none⟩), w', .inl (by simp [execOp, ho, Instr.box, h1]), _, h2, ?_⟩
        simp only [Rep]
        exact ⟨_, by simp [Cx.setBlk]; rfl, by simp⟩
      · cases hk
    · cases hq
  | build t ps =>
    rw [ho] at hq; simp only [req] at hq
    have hq' := hq
    obtain ⟨z, rfl⟩ : ∃ z, r = .val z := by
      unfold buildReq at hq'
      repeat' split at hq'
      all_goals first | cases hq' | (rw [Option.map_eq_some_iff] at hq'; obtain ⟨cs, _, rfl⟩ := hq'; exact ⟨_, rfl⟩)
    have h := (VOk.val hS (build_ok hq (repP_map hρ ps)) hrun).op
    simpa [execOp, ho] using h
  | buildSlice t n ps =>
    rw [ho] at hq; simp only [req] at hq
    cases hv : isVec cfg t with
    | true =>
      rw [hv] at hq
      have h := (buildVec_ok (P := P) hS hq hrun (repP_map hρ ps)).op
      simpa [execOp, ho] using h
    | false =>
    rw [hv] at hq
    simp only [cond_false] at hq
    have hq' := hq
    obtain ⟨z, rfl⟩ : ∃ z, r = .val z := by
      unfold buildSliceReq at hq'
      repeat' split at hq'
      all_goals first | cases hq' | (rw [Option.map_eq_some_iff] at hq'; obtain ⟨cs, _, rfl⟩ := hq'; exact ⟨_, rfl⟩)
    obtain ⟨rfl, rfl⟩ := val_run hrun
    have h := (buildSlice_ok hS hq (repP_map hρ ps)).op
    simpa [execOp, ho] using h
  | load t a =>
    rw [ho] at hq; simp only [req] at hq
    have h := (load_ok (P := P) hq hrun hS (hρ a)).op
    simpa [execOp, ho] using h
  | store t a b =>
    rw [ho] at hq; simp only [req] at hq
    have h := UOk.op (Q := fun v w' => ∃ C', Post C w m C' w' m' ∧ Rep C' w' x v) (store_ok (P := P) hq hrun hS (hρ a) (hρ b))
    simpa [execOp, ho] using h
  | nilCheck a =>
    rw [ho] at hq; simp only [req] at hq
    have ha := hρ a
    split at hq
    · rename_i id i off e; cases hq
      obtain ⟨rfl, rfl⟩ := val_run hrun
      rw [e] at ha
      have ha' := ha
      simp only [Rep] at ha
      obtain ⟨bi, _, hv⟩ := ha
      exact ⟨ρ a, w, .inl (by simp [execOp, ho, hv]), C, Post.refl hS, ha'⟩
    · rename_i e0 e; cases hq
      obtain ⟨rfl, rfl⟩ := val_run hrun
      rw [e] at ha
      have ha' := ha
      simp only [Rep] at ha
      obtain ⟨_, _, _, hv, _⟩ := ha
      exact ⟨ρ a, w, .inl (by simp [execOp, ho, hv]), C, Post.refl hS, ha'⟩
    · rename_i g fs cs e; cases hq
      obtain ⟨rfl, rfl⟩ := val_run hrun
      rw [e] at ha
      have ha' := ha
      simp only [Rep] at ha
      obtain ⟨_, _, hv, _⟩ := ha
      exact ⟨ρ a, w, .inl (by simp [execOp, ho, hv]), C, Post.refl hS, ha'⟩
    · cases hq
  | binOp op t a b t2 =>
    rw [ho] at hq; simp only [req] at hq
    rw [Option.map_eq_some_iff] at hq
    obtain ⟨z, hz, rfl⟩ := hq
    have h := (VOk.val hS (bin_ok hz (hρ a) (hρ b)) hrun).op
    simpa [execOp, ho] using h
  | unOp op t a =>
    rw [ho] at hq; simp only [req] at hq
    rw [Option.map_eq_some_iff] at hq
    obtain ⟨z, hz, rfl⟩ := hq
    have h := (VOk.val hS (un_ok (P := P) hz (hρ a)) hrun).op
    simpa [execOp, ho] using h
  | convert s d a =>
    rw [ho] at hq; simp only [req] at hq
    rw [Option.map_eq_some_iff] at hq
    obtain ⟨z, hz, rfl⟩ := hq
    have h := (VOk.val hS (convert_ok hz (hρ a)) hrun).op
    simpa [execOp, ho] using h
  | makeFunc fn first cap =>
    rw [ho] at hq; cases hq
    obtain ⟨rfl, rfl⟩ := val_run hrun
    refine ⟨.func fn (first.map ρ) (cap.map ρ), w, .inl (by simp [execOp, ho, Instr.makeFunc]), C, Post.refl hS, ?_⟩
    simp only [Rep]
    exact ⟨_, _, rfl, by simpa using reps_map hρ first.toList, by simpa using reps_map hρ cap.toList⟩
  | makeMap t n =>
    rw [ho] at hq
    cases n with
    | some n => simp [req] at hq
    | none =>
      simp only [req] at hq
      cases hq
      obtain ⟨b, b', hro, hb, hk, rfl⟩ := wr_run hrun
      split at hk
      · cases hk
        have hg := grew_alloc w (Obj.map #[] 0)
        have hpost := post_new (sz := 0) (cnt := 0) (blk' := .map []) hS hb hro hg fun hE => ⟨_, #[], 0, by simp [Cx.setBlk]; rfl, hg.at_, .nil⟩
        refine ⟨.map (some w.heap.size), w.alloc (Obj.map #[] 0), .inl (by simp [execOp, ho, Instr.makeMap]), _, hpost, ?_⟩
        simp only [Rep]
        exact ⟨_, by simp [Cx.setBlk]; rfl, by simp⟩
      · cases hk
  | makeSlice t l c =>
    rw [ho] at hq; simp only [req] at hq
    have h := (makeSlice_ok (P := P) hq hrun hS (hρ l) (hρ c) fun hs k n k' n' e1 e2 => by
      cases l <;> cases c <;> simp [sameOperand] at hs
      · rename_i a b; subst hs; rw [e1] at e2; cases e2; rfl
      · rename_i a b
        rw [hcst] at e1 e2
        subst e1; subst e2
        simp at hs
        exact hs.symm).op
    simpa [execOp, ho] using h
  | slice t a lo hi mx =>
    rw [ho] at hq
    cases mx with
    | some mx => simp [req] at hq
    | none =>
      simp only [req] at hq
      have hq' := hq
      obtain ⟨z, rfl⟩ : ∃ z, r = .val z := by
        unfold sliceReq at hq'
        repeat' split at hq'
        all_goals first | (cases hq'; exact ⟨_, rfl⟩) | cases hq'
      have h := (VOk.val hS (slice_ok hq (hρ a) (repO_map hρ lo) (repO_map hρ hi)) hrun).op
      simpa [execOp, ho] using h
  | fieldAddr t a f =>
    rw [ho] at hq; simp only [req] at hq
    have hq' := hq
    obtain ⟨z, rfl⟩ : ∃ z, r = .val z := by
      unfold fieldAddrReq at hq'
      repeat' split at hq'
      all_goals first | (cases hq'; exact ⟨_, rfl⟩) | cases hq' | (rw [Option.map_eq_some_iff] at hq'; obtain ⟨cs, _, rfl⟩ := hq'; exact ⟨_, rfl⟩)
    have h := (VOk.val hS (fieldAddr_ok hq (hρ a)) hrun).op
    simpa [execOp, ho] using h
  | field t a f =>
    rw [ho] at hq; simp only [req] at hq
    split at hq
    · rename_i fd cs hf e
      rw [Option.map_eq_some_iff] at hq
      obtain ⟨z, hz, rfl⟩ := hq
      have ha := hρ a; rw [e] at ha
      have h := (VOk.val hS (field_ok hf hz ha) hrun).op
      simpa [execOp, ho] using h
    · cases hq
  | indexAddr t a ix =>
    rw [ho] at hq; simp only [req] at hq
    have hq' := hq
    obtain ⟨z, rfl⟩ : ∃ z, r = .val z := by
      unfold indexAddrReq at hq'
      repeat' split at hq'
      all_goals first | (cases hq'; exact ⟨_, rfl⟩) | cases hq' | (rw [Option.map_eq_some_iff] at hq'; obtain ⟨cs, _, rfl⟩ := hq'; exact ⟨_, rfl⟩) | (rw [Option.bind_eq_some_iff] at hq'; obtain ⟨_, _, hq'⟩ := hq'; rw [Option.map_eq_some_iff] at hq'; obtain ⟨cs, _, rfl⟩ := hq'; exact ⟨_, rfl⟩)
    have h := (VOk.val hS (indexAddr_ok hq (hρ a) (hρ ix)) hrun).op
    simpa [execOp, ho] using h
  | index t a ix =>
    rw [ho] at hq; simp only [req] at hq
    have hq' := hq
    obtain ⟨z, rfl⟩ : ∃ z, r = .val z := by
      unfold indexReq at hq'
      repeat' split at hq'
      all_goals first | cases hq' | (rw [Option.map_eq_some_iff] at hq'; obtain ⟨cs, _, rfl⟩ := hq'; exact ⟨_, rfl⟩) | (rw [Option.bind_eq_some_iff] at hq'; obtain ⟨_, _, hq'⟩ := hq'; rw [Option.map_eq_some_iff] at hq'; obtain ⟨cs, _, rfl⟩ := hq'; exact ⟨_, rfl⟩)
    have h := (VOk.val hS (index_ok hq (hρ a) (hρ ix)) hrun).op
    simpa [execOp, ho] using h
  | lookup t a ix ok =>
    rw [ho] at hq; simp only [req] at hq
    have h := (lookup_ok (P := P) hq hrun hS (hρ a) (hρ ix)).op
    simpa [execOp, ho] using h
  | mapUpdate t a k b =>
    rw [ho] at hq; simp only [req] at hq
    obtain ⟨w', h1, C', h2, rfl⟩ := mapUpdate_ok (P := P) hq hrun hS (hρ a) (hρ k) (hρ b)
    exact ⟨undef, w', .inr ⟨by simp [execOp, ho, h1], rfl⟩, C', h2, by simp [Rep]⟩
  | insert t a k b =>
    rw [ho] at hq; simp only [req] at hq
    obtain ⟨w', h1, C', h2, rfl⟩ := mapUpdate_ok (P := P) hq hrun hS (hρ a) (hρ k) (hρ b)
    exact ⟨undef, w', .inr ⟨by simp [execOp, ho, h1], rfl⟩, C', h2, by simp [Rep]⟩
  | makeInterface t a =>
    rw [ho] at hq; simp only [req] at hq
    split at hq
    · cases hq
    · rename_i d hne hu
      cases hq
      obtain ⟨rfl, rfl⟩ := val_run hrun
      refine ⟨.iface t (ρ a), w, .inl ?_, C, Post.refl hS, ?_⟩
      · simp only [execOp, ho, Instr.makeInterface]
        cases d <;> simp_all [run_und hu]
      · simp only [Rep]; exact ⟨_, rfl, hρ a⟩
    · cases hq
  | extract a ix =>
    rw [ho] at hq; simp only [req] at hq
    split at hq
    · rename_i cs e
      rw [Option.map_eq_some_iff] at hq
      obtain ⟨z, hz, rfl⟩ := hq
      obtain ⟨rfl, rfl⟩ := val_run hrun
      have ha := hρ a; rw [e] at ha
      simp only [Rep] at ha
      obtain ⟨ys, hv, hr⟩ := ha
      obtain ⟨y, hy, hry⟩ := hr.get hz
      have hy' : ys[ix]? = some y := by simpa using hy
      exact ⟨y, w, .inl (by simp [execOp, ho, hv, Instr.extract, hy']), C, Post.refl hS, hry⟩
    · cases hq
  | call c =>
    rw [ho] at hq; simp only [req, callOf] at hq
    cases hc : c.callee with
    | value f => exact absurd hc (hnc c f ho)
    | invoke a b => simp [hc] at hq
    | builtin b =>
      rw [hc] at hq
      simp only at hq
      have h := fun cs => builtin_ok (ty := o.type) (cs := cs) (args := c.args.map ρ) hq hrun hS (by simpa using reps_map hρ c.args.toList)
      simp only [execOp, ho, resolve, hc, pure_bind, invoke]
      exact h _
  | _ => rw [ho] at hq; simp [req] at hq
end
end Go.Den
