/-
  Regions: in the order of the text, and in whatever order their edges allow. Conditions: as each statement says.
-/
import Derived.Test.YtnnajbbmgponpaaDenCtl2
namespace Go.Den
section
variable {P : Program} {cfg : FuncId → FCfg} {rec : Task → AMem → Option (AV × AMem)} {C : Cx} {w : World}

/-- Operations carried out one after the other, with what each touches. -/
inductive Runs (P : Program) (cfg : FuncId → FCfg) (rec : Task → AMem → Option (AV × AMem)) (ops : Array Oper) : List (Nat × Nat × Acc) → St → St → Prop
  | nil (st : St) : Runs P cfg rec ops [] st st
  | cons {i fr : Nat} {ac : Acc} {o : Oper} {st st1 st' : St} {rest : List (Nat × Nat × Acc)} : ops[i]? = some o → ex1 P cfg rec ops.toList fr o st = some (st1, ac) → Runs P cfg rec ops rest st1 st' → Runs P cfg rec ops ((i, fr, ac) :: rest) st st'

theorem runs_of_exOps {ops : Array Oper} : ∀ (rest pre : List Oper) (fresh : Nat) (st st' : St) (as : List Acc), ops.toList = pre ++ rest → exOps P cfg rec ops.toList fresh rest st = some (st', as) →
    ∃ R : List (Nat × Nat × Acc), Runs P cfg rec ops R st st' ∧ R.map (·.1) = List.range' pre.length rest.length ∧ R.map (·.2.2) = as
  | [], pre, fresh, st, st', as, _, h => by cases h; exact ⟨[], .nil _, rfl, rfl⟩
  | o :: rest, pre, fresh, st, st', as, hp, h => by
    simp only [exOps] at h
    split at h
    · rename_i st1 a h1
      split at h
      · rename_i st2 as' h2
        cases h
        obtain ⟨R, r1, r2, r3⟩ := runs_of_exOps rest (pre ++ [o]) _ _ _ _ (by simp [hp]) h2
        have hi : ops[pre.length]? = some o := by rw [← Array.getElem?_toList, hp]; simp
        refine ⟨(pre.length, fresh, a) :: R, .cons hi h1 r1, ?_, by simp [r3]⟩
        simp only [List.map_cons, r2, List.length_cons, List.length_append, List.length_nil, Nat.zero_add]
        rw [List.range'_succ]
      · cases h
    · cases h

/-- In the order of the text. -/
theorem runs_ok {ops : Array Oper} {ar : Option Nat} {k : Nat} {Q : Exit → Act → World → Prop} (hrec : RecOk2 P cfg rec) : ∀ {R : List (Nat × Nat × Acc)} {C : Cx} {w : World} {a : Act} {st st' : St}, Runs P cfg rec ops R st st' → StOk C w a st →
    (∀ a' w' C', Post C w st.m C' w' st'.m → StOk C' w' a' st' → Q .normal a' w') → wpOpsIn (Fa ar) k P ops Q (R.map (·.1)) a w
  | [], C, w, a, st, st', hr, hst, hQ => by
    cases hr
    exact hQ _ _ _ (Post.refl hst.sim) hst
  | (i, fr, ac) :: R, C, w, a, st, st', hr, hst, hQ => by
    cases hr with
    | cons hi hex hrest =>
      rw [List.map_cons, wpOpsIn_cons]
      refine ex1_ok hex hst hrec hi fun a1 w1 C1 hP1 hst1 => ?_
      exact runs_ok hrec hrest hst1 fun a2 w2 C2 hP2 hst2 => hQ _ _ _ (hP1.trans hP2) hst2

/-- Whatever may stand before the first. -/
def Clear (ops : Array Oper) (x y : Nat × Nat × Acc) : Prop := x.2.2.free y.2.2 = true ∧ ∀ (o1 o2 : Oper), ops[x.1]? = some o1 → ops[y.1]? = some o2 → o1.apart ops o2 = true

theorem runs_front {ops : Array Oper} {y : Nat × Nat × Acc} {R2 : List (Nat × Nat × Acc)} {st' : St} : ∀ {R1 : List (Nat × Nat × Acc)} {st : St}, Runs P cfg rec ops (R1 ++ y :: R2) st st' → (∀ x ∈ R1, Clear ops x y) →
    ∃ o st1, ops[y.1]? = some o ∧ ex1 P cfg rec ops.toList y.2.1 o st = some (st1, y.2.2) ∧ Runs P cfg rec ops (R1 ++ R2) st1 st'
  | [], st, h, _ => by
    cases h with
    | cons hi hex hr => exact ⟨_, _, hi, hex, hr⟩
  | x :: R1, st, h, hc => by
    obtain ⟨i, fr, ac⟩ := x
    rw [List.cons_append] at h
    cases h with
    | cons hi hex hr =>
      obtain ⟨o2, st2, g1, g2, g3⟩ := runs_front hr fun z hz => hc z (List.mem_cons_of_mem _ hz)
      obtain ⟨c1, c2⟩ := hc _ (List.mem_cons_self ..)
      obtain ⟨st3, e1, e2⟩ := ex1_comm hex g2 c1 (c2 _ _ hi g1)
      exact ⟨o2, st3, g1, e1, .cons hi e2 g3⟩

/-! ### Which operations stand before which -/
def befStep (acc : Array Nat) (o : Oper) : Array Nat :=
  acc.push (o.after.foldl (fun s e => if Region.binds .any e then s ||| 2 ^ e.on ||| acc.getD e.on 0 else s) 0)

theorem before_eq (ops : Array Oper) : Region.before ops = ops.toList.foldl befStep #[] := by
  unfold Region.before
  rw [← Array.foldl_toList]
  rfl

theorem bef_prefix : ∀ (l : List Oper) (acc : Array Nat) (k : Nat), k < acc.size → (l.foldl befStep acc)[k]? = acc[k]?
  | [], _, _, _ => rfl
  | o :: l, acc, k, hk => by
    rw [List.foldl_cons, bef_prefix l _ k (by simp [befStep]; omega)]
    simp [befStep, Array.getElem?_push_lt hk, Array.getElem?_eq_getElem hk]

theorem bef_size : ∀ (l : List Oper) (acc : Array Nat), (l.foldl befStep acc).size = acc.size + l.length
  | [], _ => rfl
  | o :: l, acc => by rw [List.foldl_cons, bef_size l]; simp [befStep]; omega

theorem bits_fold {acc : Array Nat} {j : Nat} : ∀ (es : List Edge) (s : Nat), (es.foldl (fun s e => if Region.binds .any e then s ||| 2 ^ e.on ||| acc.getD e.on 0 else s) s).testBit j = true →
    s.testBit j = true ∨ ∃ e ∈ es, Region.binds .any e = true ∧ (e.on = j ∨ (acc.getD e.on 0).testBit j = true)
  | [], s, h => .inl h
  | e :: es, s, h => by
    rw [List.foldl_cons] at h
    rcases bits_fold es _ h with h | ⟨e', h1, h2⟩
    · split at h
      · rename_i hb
        simp only [Nat.testBit_or, Bool.or_eq_true] at h
        rcases h with (h | h) | h
        · exact .inl h
        · refine .inr ⟨e, List.mem_cons_self .., hb, .inl ?_⟩
          rw [Nat.testBit_two_pow] at h
          simpa using h
        · exact .inr ⟨e, List.mem_cons_self .., hb, .inr h⟩
      · exact .inl h
    · exact .inr ⟨e', List.mem_cons_of_mem _ h1, h2⟩

theorem before_bit {ops : Array Oper} {i j : Nat} {o : Oper} (hi : ops[i]? = some o) (hlt : ∀ e ∈ o.after.toList, Region.binds .any e = true → e.on < i) (h : ((Region.before ops).getD i 0).testBit j = true) :
    ∃ e ∈ o.after.toList, Region.binds .any e = true ∧ (e.on = j ∨ ((Region.before ops).getD e.on 0).testBit j = true) := by
  have hsz := (Array.getElem?_eq_some_iff.1 hi).1
  have hi' : ops.toList[i]? = some o := by simpa using hi
  have hlen : i < ops.toList.length := by simpa using hsz
  have hd : ops.toList.drop i = o :: ops.toList.drop (i + 1) := by
    rw [List.drop_eq_getElem_cons hlen]
    rw [List.getElem?_eq_getElem hlen] at hi'
    rw [Option.some.inj hi']
  have hsplit : ops.toList = ops.toList.take i ++ o :: ops.toList.drop (i + 1) := by rw [← hd, List.take_append_drop]
  have hA : ((ops.toList.take i).foldl befStep #[]).size = i := by rw [bef_size]; simp; omega
  have hB : Region.before ops = (o :: ops.toList.drop (i + 1)).foldl befStep ((ops.toList.take i).foldl befStep #[]) := by
    rw [before_eq, ← List.foldl_append, ← hsplit]
  generalize (ops.toList.take i).foldl befStep #[] = A at hA hB
  have hpre : ∀ k, k < i → (Region.before ops).getD k 0 = A.getD k 0 := fun k hk => by
    rw [Array.getD_eq_getD_getElem?, Array.getD_eq_getD_getElem?, hB, bef_prefix _ _ _ (by omega)]
  have hii : (Region.before ops).getD i 0 = o.after.foldl (fun s e => if Region.binds .any e then s ||| 2 ^ e.on ||| A.getD e.on 0 else s) 0 := by
    rw [Array.getD_eq_getD_getElem?, hB, List.foldl_cons, bef_prefix _ _ _ (by simp [befStep]; omega)]
    have : i = A.size := hA.symm
    subst this
    simp [befStep]
  rw [hii, ← Array.foldl_toList] at h
  rcases bits_fold _ _ h with h | ⟨e, h1, h2, h3⟩
  · simp at h
  · exact ⟨e, h1, h2, h3.imp id fun h => by rw [hpre _ (hlt e h1 h2)]; exact h⟩

/-! ### Whatever order the edges allow -/
/-- What has been carried out and what is left. -/
structure Left (ops : Array Oper) (listed : Array Bool) (R : List (Nat × Nat × Acc)) : Prop where
  size : listed.size = ops.size
  sorted : R.Pairwise fun x y => x.1 < y.1
  mem : ∀ i, i < ops.size → (listed[i]? = some false ↔ ∃ x ∈ R, x.1 = i)
  closed : ∀ (i : Nat) (o : Oper), ops[i]? = some o → listed[i]? = some true → ∀ e ∈ o.after.toList, Region.binds .any e = true → listed[e.on]? = some true
  lt : ∀ x ∈ R, x.1 < ops.size

def Orderly (ops : Array Oper) (R : List (Nat × Nat × Acc)) : Prop := R.Pairwise fun x y => ((Region.before ops).getD y.1 0).testBit x.1 = true ∨ Clear ops x y

theorem listed_bool {listed : Array Bool} {i n : Nat} (hs : listed.size = n) (hi : i < n) : listed[i]? = some true ∨ listed[i]? = some false := by
  rw [Array.getElem?_eq_getElem (by omega)]
  cases listed[i] <;> simp

theorem before_listed {ops : Array Oper} {listed : Array Bool} {R : List (Nat × Nat × Acc)} (hL : Left ops listed R) (hlt : ∀ (i : Nat) (o : Oper), ops[i]? = some o → ∀ e ∈ o.after.toList, Region.binds .any e = true → e.on < i) (j : Nat) :
    ∀ (n i : Nat) (o : Oper), i ≤ n → ops[i]? = some o → (∀ e ∈ o.after.toList, Region.binds .any e = true → listed[e.on]? = some true) → ((Region.before ops).getD i 0).testBit j = true → listed[j]? = some true
  | 0, i, o, hn, hi, hp, h => by
    obtain ⟨e, h1, h2, h3⟩ := before_bit hi (hlt i o hi) h
    have := hlt i o hi e h1 h2; omega
  | n + 1, i, o, hn, hi, hp, h => by
    obtain ⟨e, h1, h2, h3⟩ := before_bit hi (hlt i o hi) h
    have he := hlt i o hi e h1 h2
    rcases h3 with h3 | h3
    · rw [← h3]; exact hp e h1 h2
    · have hsz := (Array.getElem?_eq_some_iff.1 hi).1
      have ho : ops[e.on]? = some (ops[e.on]'(by omega)) := Array.getElem?_eq_getElem (by omega)
      exact before_listed hL hlt j n e.on _ (by omega) ho (hL.closed _ _ ho (hp e h1 h2)) h3

theorem ready_iff {ops : Array Oper} {listed : Array Bool} {i : Nat} (hs : listed.size = ops.size) : i ∈ Region.ready .any ops listed ↔ ∃ o, ops[i]? = some o ∧ listed[i]? = some false ∧ ∀ e ∈ o.after.toList, Region.binds .any e = true → listed[e.on]? = some true := by
  unfold Region.ready
  simp only [List.mem_filter, List.mem_range, Bool.and_eq_true, Bool.not_eq_true']
  constructor
  · rintro ⟨h1, h2, h3⟩
    have ho : ops[i]? = some ops[i] := Array.getElem?_eq_getElem h1
    refine ⟨ops[i], ho, ?_, ?_⟩
    · rcases listed_bool hs h1 with h | h
      · rw [Array.getD_eq_getD_getElem?, h] at h2; simp at h2
      · exact h
    · intro e he hb
      rw [ho] at h3
      simp only [Option.map_some, Option.getD_some, Array.all_eq_true_iff_forall_mem] at h3
      have := h3 e (by simpa using he)
      simp only [hb, Bool.not_true, Bool.false_or] at this
      rw [Array.getD_eq_getD_getElem?] at this
      cases hl : listed[e.on]? with
      | none => rw [hl] at this; simp at this
      | some b => rw [hl] at this; simp at this; rw [this]
  · rintro ⟨o, ho, h1, h2⟩
    refine ⟨(Array.getElem?_eq_some_iff.1 ho).1, by rw [Array.getD_eq_getD_getElem?, h1]; rfl, ?_⟩
    rw [ho]
    simp only [Option.map_some, Option.getD_some, Array.all_eq_true_iff_forall_mem]
    intro e he
    cases hb : Region.binds .any e with
    | false => simp
    | true =>
      have := h2 e (by simpa using he) hb
      rw [Array.getD_eq_getD_getElem?, this]; simp

theorem any_ok {ops : Array Oper} {ar : Option Nat} {k : Nat} {Q : Exit → Act → World → Prop} (hrec : RecOk2 P cfg rec) (hlt : ∀ (i : Nat) (o : Oper), ops[i]? = some o → ∀ e ∈ o.after.toList, Region.binds .any e = true → e.on < i) :
    ∀ (n : Nat) {R : List (Nat × Nat × Acc)} {listed : Array Bool} {C : Cx} {w : World} {a : Act} {st st' : St}, R.length = n → Left ops listed R → Orderly ops R → Runs P cfg rec ops R st st' → StOk C w a st →
    (∀ a' w' C', Post C w st.m C' w' st'.m → StOk C' w' a' st' → Q .normal a' w') → wpAnyIn (Fa ar) k P .any ops Q n listed a w
  | 0, R, listed, C, w, a, st, st', hn, hL, hO, hr, hst, hQ => by
    obtain rfl := List.eq_nil_of_length_eq_zero hn
    cases hr
    refine ⟨?_, hQ _ _ _ (Post.refl hst.sim) hst⟩
    apply List.eq_nil_iff_forall_not_mem.2
    intro i hi
    obtain ⟨o, ho, h1, _⟩ := (ready_iff hL.size).1 hi
    obtain ⟨x, hx, _⟩ := (hL.mem i (Array.getElem?_eq_some_iff.1 ho).1).1 h1
    simp at hx
  | n + 1, R, listed, C, w, a, st, st', hn, hL, hO, hr, hst, hQ => by
    refine ⟨fun hnil => ?_, fun i hi => ?_⟩
    · -- the first that is left is ready
      exfalso
      match R, hn with
      | x :: R, hn =>
        have hx := hL.lt x (List.mem_cons_self ..)
        have ho : ops[x.1]? = some ops[x.1] := Array.getElem?_eq_getElem hx
        have hmem : x.1 ∈ Region.ready .any ops listed := by
          refine (ready_iff hL.size).2 ⟨_, ho, (hL.mem x.1 hx).2 ⟨x, List.mem_cons_self .., rfl⟩, fun e he hb => ?_⟩
          have hlt' := hlt _ _ ho e he hb
          rcases listed_bool hL.size (show e.on < ops.size by omega) with h | h
          · exact h
          · obtain ⟨y, hy, hye⟩ := (hL.mem e.on (by omega)).1 h
            rcases List.mem_cons.1 hy with rfl | hy
            · omega
            · have := (List.pairwise_cons.1 hL.sorted).1 y hy; omega
        rw [hnil] at hmem
        simp at hmem
    · obtain ⟨o, ho, h1, h2⟩ := (ready_iff hL.size).1 hi
      have his := (Array.getElem?_eq_some_iff.1 ho).1
      obtain ⟨y, hy, rfl⟩ := (hL.mem i his).1 h1
      obtain ⟨R1, R2, rfl⟩ := List.append_of_mem hy
      have hclear : ∀ x ∈ R1, Clear ops x y := by
        intro x hx
        have hp := (List.pairwise_append.1 hO).2.2 x hx y (List.mem_cons_self ..)
        rcases hp with hp | hp
        · exfalso
          have hl := before_listed hL hlt x.1 y.1 y.1 o (Nat.le_refl _) ho h2 hp
          have := (hL.mem x.1 (hL.lt x (by simp [hx]))).2 ⟨x, by simp [hx], rfl⟩
          rw [hl] at this; cases this
        · exact hp
      obtain ⟨o', st1, g1, g2, g3⟩ := runs_front hr hclear
      refine ex1_ok g2 hst hrec g1 fun a1 w1 C1 hP1 hst1 => ?_
      refine any_ok hrec hlt n (R := R1 ++ R2) (by simp at hn ⊢; omega) ?_ ?_ g3 hst1 fun a2 w2 C2 hP2 hst2 => hQ _ _ _ (hP1.trans hP2) hst2
      · have hsub : (R1 ++ R2).Sublist (R1 ++ y :: R2) := List.Sublist.append_left (List.sublist_cons_self y R2) R1
        have hsorted := List.pairwise_append.1 hL.sorted
        have hne : ∀ x ∈ R1 ++ R2, x.1 ≠ y.1 := by
          intro x hx
          rcases List.mem_append.1 hx with hx | hx
          · have := hsorted.2.2 x hx y (List.mem_cons_self ..); omega
          · have := (List.pairwise_cons.1 hsorted.2.1).1 x hx; omega
        refine ⟨by simp [hL.size], hL.sorted.sublist hsub, fun j hj => ?_, fun j oj hoj hlj e he hb => ?_, fun x hx => hL.lt x (hsub.subset hx)⟩
        · rw [Array.getElem?_setIfInBounds]
          by_cases hjy : y.1 = j
          · subst hjy
            simp only [if_true, hL.size, hj]
            constructor
            · intro h; cases h
            · rintro ⟨x, hx, hxe⟩; exact absurd hxe (hne x hx)
          · simp only [hjy, if_false]
            rw [hL.mem j hj]
            constructor
            · rintro ⟨x, hx, hxe⟩
              refine ⟨x, ?_, hxe⟩
              simp only [List.mem_append, List.mem_cons] at hx ⊢
              rcases hx with hx | rfl | hx
              · exact .inl hx
              · exact absurd hxe hjy
              · exact .inr hx
            · rintro ⟨x, hx, hxe⟩
              exact ⟨x, hsub.subset hx, hxe⟩
        · rw [Array.getElem?_setIfInBounds] at hlj ⊢
          by_cases hjy : y.1 = j
          · subst hjy
            rw [ho] at hoj; cases hoj
            have hej := hlt _ _ ho e he hb
            rw [if_neg (by omega)]
            exact h2 e he hb
          · rw [if_neg hjy] at hlj
            have := hL.closed j oj hoj hlj e he hb
            split
            · rename_i hye
              rw [hL.size]
              simp [his]
            · exact this
      · exact List.Pairwise.sublist (List.Sublist.append_left (List.sublist_cons_self y R2) R1) hO

end
end Go.Den
