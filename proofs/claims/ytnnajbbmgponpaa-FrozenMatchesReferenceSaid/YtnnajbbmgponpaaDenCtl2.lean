/-
  Operations that touch nothing of one another change places. Conditions: as each statement says.
-/
import Derived.Test.YtnnajbbmgponpaaDenCtl1
namespace Go.Den
section
variable {P : Program} {cfg : FuncId → FCfg} {rec : Task → AMem → Option (AV × AMem)}

theorem map_congr_ops {ρ ρ' : Operand → AV} {l : List Operand} (h : ∀ x ∈ l, ρ x = ρ' x) : l.map ρ = l.map ρ' := List.map_congr_left h

theorem parts_congr {ρ ρ' : Operand → AV} {l : List (Nat × Operand)} (h : ∀ x ∈ l.map (·.2), ρ x = ρ' x) : (l.map fun x => (x.1, ρ x.2)) = l.map fun x => (x.1, ρ' x.2) := by
  apply List.map_congr_left
  intro x hx
  rw [h x.2 (List.mem_map_of_mem hx)]

theorem opt_congr {ρ ρ' : Operand → AV} {x : Option Operand} (h : ∀ y, x = some y → ρ y = ρ' y) : x.map ρ = x.map ρ' := by
  cases x with
  | none => rfl
  | some y => simp [h y rfl]

theorem req_congr {ρ ρ' : Operand → AV} {fresh : Nat} {o : Op} (h : ∀ x ∈ o.operands.toList, ρ x = ρ' x) : req P cfg rec ρ fresh o = req P cfg rec ρ' fresh o := by
  cases o with
  | build t ps =>
    have : ∀ x ∈ ps.toList.map (·.2), ρ x = ρ' x := fun x hx => h x (by simpa [Op.operands] using hx)
    simp only [req]
    rw [parts_congr this]
  | buildSlice t n ps =>
    have : ∀ x ∈ ps.toList.map (·.2), ρ x = ρ' x := fun x hx => h x (by simpa [Op.operands] using hx)
    simp only [req]
    rw [parts_congr this]
  | makeFunc fn a b =>
    have h1 : ∀ x ∈ a.toList, ρ x = ρ' x := fun x hx => h x (by simp only [Op.operands, Array.toList_append, List.mem_append]; exact .inl hx)
    have h2 : ∀ x ∈ b.toList, ρ x = ρ' x := fun x hx => h x (by simp only [Op.operands, Array.toList_append, List.mem_append]; exact .inr hx)
    simp only [req]
    rw [map_congr_ops h1, map_congr_ops h2]
  | slice t x lo hi mx =>
    have h1 : ρ x = ρ' x := h x (by simp [Op.operands])
    have h2 : ∀ y, lo = some y → ρ y = ρ' y := fun y hy => h y (by subst hy; simp [Op.operands])
    have h3 : ∀ y, hi = some y → ρ y = ρ' y := fun y hy => h y (by subst hy; simp [Op.operands])
    cases mx with
    | some mx => simp [req]
    | none => simp only [req]; rw [h1, opt_congr h2, opt_congr h3]
  | call c =>
    have h1 : ∀ x ∈ c.args.toList, ρ x = ρ' x := fun x hx => h x (by simp only [Op.operands, Call.operands, Array.toList_append, List.mem_append]; exact .inr hx)
    simp only [req, callOf]
    rw [map_congr_ops h1]
    cases hc : c.callee with
    | builtin b => rfl
    | invoke a b => rfl
    | value f =>
      have h2 : ρ f = ρ' f := h f (by simp [Op.operands, Call.operands, hc])
      simp only [h2]
  | makeMap t n => cases n <;> simp [req]
  | _ => simp_all [req, Op.operands]

theorem ev_put {s : List AV} {d : Option Tmp} {x : AV} {y : Operand} (h : ∀ t, d = some t → y ≠ .tmp t) : ev (put s d x) y = ev s y := by
  cases d with
  | none => rfl
  | some d =>
    cases y with
    | tmp t =>
      have hne : d ≠ t := fun e => h d rfl (by rw [e])
      simp only [ev, put, List.getD_eq_getElem?_getD, List.getElem?_set_ne hne]
    | _ => rfl

theorem put_comm {s : List AV} {d e : Option Tmp} {x y : AV} (h : ∀ t, d = some t → e ≠ some t) : put (put s d x) e y = put (put s e y) d x := by
  cases d with
  | none => rfl
  | some d =>
    cases e with
    | none => rfl
    | some e =>
      have : d ≠ e := fun hde => h d rfl (by rw [hde])
      simp only [put]
      rw [List.set_comm _ _ this]

theorem wantedA_put {ops : Array Oper} {s : List AV} {o : Oper} {d : Option Tmp} {x : AV} (h : ∀ t, d = some t → t ∉ o.looksAt ops) : wantedA ops.toList (put s d x) o = wantedA ops.toList s o := by
  unfold wantedA
  cases hg : o.guard with
  | none => rfl
  | some g =>
    obtain ⟨j, want⟩ := g
    simp only
    cases hd : (ops.toList[j]?).bind (·.dst) with
    | none => rfl
    | some e =>
      simp only
      cases d with
      | none => rfl
      | some d =>
        have hne : d ≠ e := by
          rintro rfl
          refine h d rfl ?_
          have hd' : (ops[j]?).bind (·.dst) = some d := by simpa using hd
          simp only [Oper.looksAt, hg, hd', List.mem_append]
          exact .inr (by simp)
        simp only [put, List.getElem?_set_ne hne]

theorem ev_looks {ops : Array Oper} {s : List AV} {o : Oper} {d : Option Tmp} {x : AV} (h : ∀ t, d = some t → t ∉ o.looksAt ops) : ∀ y ∈ o.op.operands.toList, ev (put s d x) y = ev s y := by
  intro y hy
  refine ev_put fun t ht e => h t ht ?_
  subst e
  simp only [Oper.looksAt, List.mem_append, List.mem_filterMap]
  exact .inl ⟨.tmp t, hy, rfl⟩

theorem sameS_eq : ∀ {x y : AV}, sameS x y = true → x = y := by
  intro x y h
  unfold sameS at h
  split at h
  · simp only [Bool.and_eq_true, decide_eq_true_eq, beq_iff_eq] at h; obtain ⟨rfl, rfl⟩ := h; rfl
  · simp only [beq_iff_eq] at h; subst h; rfl
  · simp only [Bool.and_eq_true, beq_iff_eq] at h; obtain ⟨⟨⟨rfl, rfl⟩, rfl⟩, rfl⟩ := h; rfl
  · simp only [Bool.and_eq_true, beq_iff_eq] at h; obtain ⟨⟨rfl, rfl⟩, rfl⟩ := h; rfl
  · simp only [beq_iff_eq] at h; subst h; rfl
  · cases h
theorem sameL_eq {f : AV → AV → Bool} (hf : ∀ {x y}, f x y = true → x = y) : ∀ {xs ys : List AV}, sameL f xs ys = true → xs = ys
  | [], [], _ => rfl
  | x :: xs, y :: ys, h => by
    simp only [sameL, Bool.and_eq_true] at h
    rw [hf h.1, sameL_eq hf h.2]
  | [], _ :: _, h => by simp [sameL] at h
  | _ :: _, [], h => by simp [sameL] at h
theorem sameE_eq {x y : AV} (h : sameE x y = true) : x = y := by
  unfold sameE at h
  split at h
  · rw [sameL_eq sameS_eq h]
  · exact sameS_eq h
theorem sameBlk_eq {x y : Option ABlk} (h : sameBlk x y = true) : x = y := by
  unfold sameBlk at h
  split at h
  · simp only [Bool.and_eq_true, beq_iff_eq] at h
    rw [h.1, sameL_eq sameE_eq h.2]
  · simp only [Bool.and_eq_true, beq_iff_eq] at h
    rw [h.1, sameL_eq sameE_eq h.2]
  · cases h

/-- Two requests that touch nothing of one another. -/
theorem run_comm {r1 r2 : Req} {m m1 m2 : AMem} {x1 x2 : AV} {a1 a2 : Acc} (h1 : r1.run m = some (x1, m1, a1)) (h2 : r2.run m1 = some (x2, m2, a2)) (hf : a1.free a2 = true) :
    ∃ m', r2.run m = some (x2, m', a2) ∧ r1.run m' = some (x1, m2, a1) := by
  cases r1 with
  | val y => cases h1; exact ⟨m2, h2, rfl⟩
  | rd id k =>
    obtain ⟨b, hb, hk, rfl⟩ := rd_run h1
    have ha : a1 = .rd id := by simp only [Req.run, hb, hk] at h1; cases h1; rfl
    subst ha
    cases r2 with
    | val y => cases h2; exact ⟨m1, rfl, h1⟩
    | rd id2 k2 => obtain ⟨b2, hb2, hk2, rfl⟩ := rd_run h2; exact ⟨_, h2, h1⟩
    | wr id2 k2 =>
      obtain ⟨b2, b2', hro, hb2, hk2, rfl⟩ := wr_run h2
      have ha2 : a2 = .wr id2 := by simp only [Req.run, hro, if_true, hb2, hk2] at h2; cases h2; rfl
      subst ha2
      refine ⟨_, h2, ?_⟩
      have hne : id ≠ id2 := by simpa [Acc.free] using hf
      simp only [Req.run, List.getElem?_set_ne (Ne.symm hne), hb, hk]
      rfl
    | tok k2 =>
      simp only [Req.run, Option.map_eq_some_iff] at h2
      obtain ⟨⟨y, n, l⟩, hk2, e⟩ := h2
      cases e
      exact ⟨{ m1 with next := n, live := l }, by simp [Req.run, hk2], by simp only [Req.run, hb, hk]; rfl⟩
    | all k2 =>
      simp only [Req.run, Option.map_eq_some_iff] at h2
      obtain ⟨y, hk2, e⟩ := h2
      cases e
      exact ⟨m1, by simp [Req.run, hk2], h1⟩
    | eff k2 =>
      simp only [Req.run, Option.map_eq_some_iff] at h2
      obtain ⟨⟨y, m3⟩, hk2, e⟩ := h2
      cases e
      have hs : m1.blks[id]? = m3.blks[id]? := sameBlk_eq hf
      exact ⟨m3, by simp [Req.run, hk2], by simp only [Req.run, ← hs, hb, hk]; rfl⟩
  | wr id k =>
    obtain ⟨b, b', hro, hb, hk, rfl⟩ := wr_run h1
    have ha : a1 = .wr id := by simp only [Req.run, hro, if_true, hb, hk] at h1; cases h1; rfl
    subst ha
    cases r2 with
    | val y => cases h2; exact ⟨m, rfl, h1⟩
    | rd id2 k2 =>
      obtain ⟨b2, hb2, hk2, rfl⟩ := rd_run h2
      have ha2 : a2 = .rd id2 := by simp only [Req.run, hb2, hk2] at h2; cases h2; rfl
      subst ha2
      have hne : id ≠ id2 := by simpa [Acc.free] using hf
      simp only [] at hb2
      rw [List.getElem?_set_ne hne] at hb2
      exact ⟨m, by simp only [Req.run, hb2, hk2]; rfl, h1⟩
    | wr id2 k2 =>
      obtain ⟨b2, b2', hro2, hb2, hk2, rfl⟩ := wr_run h2
      have ha2 : a2 = .wr id2 := by simp only [Req.run, hro2, if_true, hb2, hk2] at h2; cases h2; rfl
      subst ha2
      have hne : id ≠ id2 := by simpa [Acc.free] using hf
      simp only [] at hb2 hro2
      rw [List.getElem?_set_ne hne] at hb2
      refine ⟨{ m with blks := m.blks.set id2 b2' }, by simp only [Req.run, hro2, if_true, hb2, hk2]; rfl, ?_⟩
      simp only [Req.run, hro, if_true, List.getElem?_set_ne (Ne.symm hne), hb, hk, Option.map_some]
      rw [List.set_comm _ _ (Ne.symm hne)]
    | tok k2 =>
      simp only [Req.run, Option.map_eq_some_iff] at h2
      obtain ⟨⟨y, n, l⟩, hk2, e⟩ := h2
      cases e
      exact ⟨{ m with next := n, live := l }, by simp [Req.run, hk2], by simp only [Req.run, hro, if_true, hb, hk]; rfl⟩
    | all k2 =>
      simp only [Req.run, Option.map_eq_some_iff] at h2
      obtain ⟨y, hk2, e⟩ := h2
      cases e
      simp [Acc.free] at hf
    | eff k2 =>
      simp only [Req.run, Option.map_eq_some_iff] at h2
      obtain ⟨y, hk2, e⟩ := h2
      cases e
      simp [Acc.free] at hf
  | tok k =>
    simp only [Req.run, Option.map_eq_some_iff] at h1
    obtain ⟨⟨y, n, l⟩, hk, e⟩ := h1
    cases e
    cases r2 with
    | val y => cases h2; exact ⟨m, rfl, by simp [Req.run, hk]⟩
    | rd id2 k2 =>
      obtain ⟨b2, hb2, hk2, rfl⟩ := rd_run h2
      have ha2 : a2 = .rd id2 := by simp only [Req.run] at h2; simp only [] at hb2; simp only [hb2, hk2] at h2; cases h2; rfl
      subst ha2
      simp only [] at hb2
      exact ⟨m, by simp only [Req.run, hb2, hk2]; rfl, by simp [Req.run, hk]⟩
    | wr id2 k2 =>
      obtain ⟨b2, b2', hro2, hb2, hk2, rfl⟩ := wr_run h2
      have ha2 : a2 = .wr id2 := by simp only [Req.run] at h2; simp only [] at hb2 hro2; simp only [hro2, if_true, hb2, hk2] at h2; cases h2; rfl
      subst ha2
      simp only [] at hb2 hro2
      exact ⟨{ m with blks := m.blks.set id2 b2' }, by simp only [Req.run, hro2, if_true, hb2, hk2]; rfl, by simp [Req.run, hk]⟩
    | tok k2 =>
      simp only [Req.run, Option.map_eq_some_iff] at h2
      obtain ⟨y2, hk2, e⟩ := h2
      cases e
      simp [Acc.free] at hf
    | all k2 =>
      simp only [Req.run, Option.map_eq_some_iff] at h2
      obtain ⟨y2, hk2, e⟩ := h2
      cases e
      simp [Acc.free] at hf
    | eff k2 =>
      simp only [Req.run, Option.map_eq_some_iff] at h2
      obtain ⟨y2, hk2, e⟩ := h2
      cases e
      simp [Acc.free] at hf
  | all k =>
    simp only [Req.run, Option.map_eq_some_iff] at h1
    obtain ⟨y, hk, e⟩ := h1
    cases e
    cases r2 with
    | val y => cases h2; exact ⟨m, rfl, by simp [Req.run, hk]⟩
    | rd id2 k2 => obtain ⟨b2, hb2, hk2, rfl⟩ := rd_run h2; exact ⟨_, h2, by simp [Req.run, hk]⟩
    | wr id2 k2 =>
      obtain ⟨b2, b2', hro2, hb2, hk2, rfl⟩ := wr_run h2
      have ha2 : a2 = .wr id2 := by simp only [Req.run, hro2, if_true, hb2, hk2] at h2; cases h2; rfl
      subst ha2
      simp [Acc.free] at hf
    | tok k2 =>
      simp only [Req.run, Option.map_eq_some_iff] at h2
      obtain ⟨y2, hk2, e⟩ := h2
      cases e
      simp [Acc.free] at hf
    | all k2 =>
      simp only [Req.run, Option.map_eq_some_iff] at h2
      obtain ⟨y2, hk2, e⟩ := h2
      cases e
      exact ⟨m, by simp [Req.run, hk2], by simp [Req.run, hk]⟩
    | eff k2 =>
      simp only [Req.run, Option.map_eq_some_iff] at h2
      obtain ⟨y2, hk2, e⟩ := h2
      cases e
      simp [Acc.free] at hf
  | eff k =>
    simp only [Req.run, Option.map_eq_some_iff] at h1
    obtain ⟨y, hk, e⟩ := h1
    cases e
    cases r2 with
    | val y2 => cases h2; exact ⟨m, rfl, by simp [Req.run, hk]⟩
    | rd id2 k2 =>
      obtain ⟨b2, hb2, hk2, rfl⟩ := rd_run h2
      have ha2 : a2 = .rd id2 := by simp only [Req.run, hb2, hk2] at h2; cases h2; rfl
      subst ha2
      have hs : m.blks[id2]? = y.2.blks[id2]? := sameBlk_eq (by simpa [Acc.free] using hf)
      exact ⟨m, by simp only [Req.run, hs, hb2, hk2]; rfl, by simp [Req.run, hk]⟩
    | wr id2 k2 =>
      obtain ⟨b2, b2', hro2, hb2, hk2, rfl⟩ := wr_run h2
      have ha2 : a2 = .wr id2 := by simp only [Req.run, hro2, if_true, hb2, hk2] at h2; cases h2; rfl
      subst ha2
      simp [Acc.free] at hf
    | tok k2 =>
      simp only [Req.run, Option.map_eq_some_iff] at h2
      obtain ⟨y2, hk2, e⟩ := h2
      cases e
      simp [Acc.free] at hf
    | all k2 =>
      simp only [Req.run, Option.map_eq_some_iff] at h2
      obtain ⟨y2, hk2, e⟩ := h2
      cases e
      simp [Acc.free] at hf
    | eff k2 =>
      simp only [Req.run, Option.map_eq_some_iff] at h2
      obtain ⟨y2, hk2, e⟩ := h2
      cases e
      simp [Acc.free] at hf

theorem ex1_split {ops : Array Oper} {fresh : Nat} {o : Oper} {st st' : St} {acc : Acc} (h : ex1 P cfg rec ops.toList fresh o st = some (st', acc)) :
    (wantedA ops.toList st.s o = some true ∧ ∃ r x m', req P cfg rec (ev st.s) fresh o.op = some r ∧ r.run st.m = some (x, m', acc) ∧ st' = { st with s := put st.s o.dst x, m := m' }) ∨
    (wantedA ops.toList st.s o = some false ∧ acc = .none ∧ st' = { st with s := put st.s o.dst (.v undef) }) := by
  unfold ex1 at h
  split at h
  · rename_i hw
    split at h
    · rename_i r hr
      split at h
      · rename_i x m' a hrun
        cases h
        exact .inl ⟨hw, r, x, m', hr, hrun, rfl⟩
      · cases h
    · cases h
  · rename_i hw; cases h; exact .inr ⟨hw, rfl, rfl⟩
  · cases h

theorem ex1_true {ops : Array Oper} {fresh : Nat} {o : Oper} {st : St} {r : Req} {x : AV} {m' : AMem} {acc : Acc} (hw : wantedA ops.toList st.s o = some true) (hr : req P cfg rec (ev st.s) fresh o.op = some r) (hrun : r.run st.m = some (x, m', acc)) :
    ex1 P cfg rec ops.toList fresh o st = some ({ st with s := put st.s o.dst x, m := m' }, acc) := by
  simp only [ex1, hw, hr, hrun]
theorem ex1_false {ops : Array Oper} {fresh : Nat} {o : Oper} {st : St} (hw : wantedA ops.toList st.s o = some false) :
    ex1 P cfg rec ops.toList fresh o st = some ({ st with s := put st.s o.dst (.v undef) }, .none) := by
  simp only [ex1, hw]

theorem ex1_comm {ops : Array Oper} {f1 f2 : Nat} {o1 o2 : Oper} {st st1 st2 : St} {a1 a2 : Acc} (h1 : ex1 P cfg rec ops.toList f1 o1 st = some (st1, a1)) (h2 : ex1 P cfg rec ops.toList f2 o2 st1 = some (st2, a2)) (hf : a1.free a2 = true) (hap : o1.apart ops o2 = true) :
    ∃ st', ex1 P cfg rec ops.toList f2 o2 st = some (st', a2) ∧ ex1 P cfg rec ops.toList f1 o1 st' = some (st2, a1) := by
  obtain ⟨p1, p2, p3⟩ := Oper.apart_spec hap
  have hd21 : ∀ t, o2.dst = some t → o1.dst ≠ some t := fun t h2 h1 => p2 t h1 h2
  rcases ex1_split h1 with ⟨w1, r1, x1, m1, q1, u1, rfl⟩ | ⟨w1, rfl, rfl⟩ <;> rcases ex1_split h2 with ⟨w2, r2, x2, m2, q2, u2, rfl⟩ | ⟨w2, rfl, rfl⟩ <;> simp only [] at w2
  · rw [wantedA_put p1] at w2
    simp only [] at q2 u2
    rw [req_congr (ev_looks p1)] at q2
    obtain ⟨m', v2, v1⟩ := run_comm u1 u2 hf
    refine ⟨_, ex1_true w2 q2 v2, ?_⟩
    rw [ex1_true (by simp only []; rw [wantedA_put p3]; exact w1) (by simp only []; rw [req_congr (ev_looks p3)]; exact q1) v1]
    simp only []
    rw [put_comm hd21]
  · rw [wantedA_put p1] at w2
    refine ⟨_, ex1_false w2, ?_⟩
    rw [ex1_true (st := { st with s := put st.s o2.dst (.v undef) }) (by rw [wantedA_put p3]; exact w1) (by rw [req_congr (ev_looks p3)]; exact q1) u1]
    simp only []
    rw [put_comm hd21]
  · rw [wantedA_put p1] at w2
    simp only [] at q2 u2
    rw [req_congr (ev_looks p1)] at q2
    refine ⟨_, ex1_true w2 q2 u2, ?_⟩
    rw [ex1_false (by simp only []; rw [wantedA_put p3]; exact w1)]
    simp only []
    rw [put_comm hd21]
  · rw [wantedA_put p1] at w2
    refine ⟨_, ex1_false w2, ?_⟩
    rw [ex1_false (by simp only []; rw [wantedA_put p3]; exact w1)]
    simp only []
    rw [put_comm hd21]
end
end Go.Den
