/-
  Maps with plain keys; and what every operation but a call comes to. Conditions: as each statement says.
-/
import Derived.Test.YtnnajbbmgponpaaDenOps7
namespace Go.Den
section
variable {P : Program} {C : Cx} {w : World}

theorem checkKey_succ {e : Bool} {t : TypeId} {k : Value} (n : Nat) (h : plainKey P t k = true) : (Instr.checkKey e (n + 1) t k).run P w = .ok () w := by
  unfold plainKey at h
  split at h
  · rename_i hu; simp [Instr.checkKey, run_und hu]
  · rename_i hu; simp [Instr.checkKey, run_und hu]
  · rename_i hu; simp [Instr.checkKey, run_und hu]
  · cases h

theorem checkKey_plain {e : Bool} {t : TypeId} {k : Value} (h : plainKey P t k = true) : (Instr.checkKey e 10000 t k).run P w = .ok () w := checkKey_succ 9999 h

theorem sameNow_plain {t : TypeId} {d : TypeDesc} {k k' : Value} {r : Bool} (hu : P.underlying t = some d) (h : plainKey P t k = true) (hk : keyEq k k' = some r) : Instr.sameNow d k k' = some r := by
  unfold plainKey at h
  rw [hu] at h
  cases d <;> cases k <;> simp at h <;> cases k' <;> simp [keyEq] at hk <;> simp [Instr.sameNow, hk]

theorem find_ok {t : TypeId} {d : TypeDesc} {k : Value} (hu : P.underlying t = some d) (h : plainKey P t k = true) : ∀ {es : List (Value × AV)} {ents : List MapEntry} {r : Option AV} (i : Nat), MapRep C w es ents → findA k es = some r →
    ∃ q, Instr.findNow d k ents i = some q ∧ (match r, q with | none, none => True | some x, some (_, v) => Rep C w x v | _, _ => False)
  | [], ents, r, i, hm, hf => by cases hm; cases hf; exact ⟨none, rfl, trivial⟩
  | (k', x) :: es, ents, r, i, hm, hf => by
    cases hm with
    | cons h1 h2 h3 =>
      rename_i e ents'
      simp only [findA] at hf
      subst h1
      split at hf
      · rename_i hk; cases hf
        exact ⟨some (i, e.val), by simp [Instr.findNow, sameNow_plain hu h hk], h2⟩
      · rename_i hk
        obtain ⟨q, hq, hr⟩ := find_ok hu h (i + 1) h3 hf
        exact ⟨q, by simp [Instr.findNow, sameNow_plain hu h hk, hq], hr⟩
      · cases hf

theorem run_findKey {t : TypeId} {k : Value} {ents : List MapEntry} {d : TypeDesc} {q : Option (Nat × Value)} (hu : P.underlying t = some d) (h : Instr.findNow d k ents 0 = some q) : (Instr.findKey t k ents).run P w = .ok q w := by
  simp [Instr.findKey, run_und hu, h]

theorem und_of_plain {t : TypeId} {k : Value} (h : plainKey P t k = true) : ∃ d, P.underlying t = some d := by
  unfold plainKey at h
  cases hu : P.underlying t with
  | none => simp [hu] at h
  | some d => exact ⟨d, rfl⟩

theorem lookup_ok {t : TypeId} {xa ia : AV} {ok : Bool} {x ix : Value} {r : Req} {m m' : AMem} {y : AV} {acc : Acc} (hq : lookupReq P t xa ia ok = some r) (hrun : r.run m = some (y, m', acc)) (hS : Sim C w m) (hx : Rep C w xa x) (hi : Rep C w ia ix) :
    VOk P (Instr.lookup t x ix ok) w fun v w' => ∃ C', Post C w m C' w' m' ∧ Rep C' w' y v := by
  unfold lookupReq at hq
  split at hq
  · rename_i key elem hu
    split at hq
    · rename_i z k hz
      split at hq
      · rename_i hp
        simp only [Rep] at hi; subst hi
        obtain ⟨d, hd⟩ := und_of_plain hp
        obtain ⟨zv, rfl, hzv⟩ := run_zero (w := w) hz
        split at hq
        · cases hq; cases hrun
          simp only [Rep] at hx; subst hx
          have hf : (Instr.findKey key ix []).run P w = .ok none w := run_findKey hd rfl
          refine .of (v := if ok = true then .tuple #[zv, .bool false] else zv) (w' := w) ?_ ⟨C, Post.refl hS, ?_⟩
          · simp [Instr.lookup, run_und hu, checkKey_plain hp, hf, hzv]
          · cases ok with
            | true => simp [Rep, Reps, rep_ofV]
            | false => simpa using rep_ofV C w zv
        · cases hq
          simp only [Req.run] at hrun
          split at hrun
          · rename_i b hb
            rw [Option.map_eq_some_iff] at hrun
            obtain ⟨y', hk, e⟩ := hrun
            cases e
            split at hk
            · rename_i es
              rw [Option.map_eq_some_iff] at hk
              obtain ⟨r, hf, hk⟩ := hk
              simp only [Rep] at hx
              obtain ⟨bi, hC, rfl⟩ := hx
              obtain ⟨bi', ents, clock, h1, h2, h3⟩ := hS.blk _ _ hb
              rw [hC] at h1; cases h1
              obtain ⟨q, hq1, hq2⟩ := find_ok (C := C) (w := w) hd hp 0 h3 hf
              have hfk := run_findKey (P := P) (w := w) hd hq1
              have hgo : (getObj bi.b).run P w = .ok (Obj.map ents clock) w := by simp [getObj, Sem.run, h2]
              cases r with
              | none =>
                cases q with
                | some q => exact hq2.elim
                | none =>
                  refine .of (v := if ok = true then .tuple #[zv, .bool false] else zv) (w' := w) ?_ ⟨C, Post.refl hS, ?_⟩
                  · simp [Instr.lookup, run_und hu, checkKey_plain hp, hgo, hfk, hzv]
                  · subst hk
                    cases ok with
                    | true => simp [Rep, Reps, rep_ofV]
                    | false => simpa using rep_ofV C w zv
              | some u =>
                cases q with
                | none => exact hq2.elim
                | some q =>
                  obtain ⟨j, v⟩ := q
                  refine .of (v := if ok = true then .tuple #[v, .bool true] else v) (w' := w) ?_ ⟨C, Post.refl hS, ?_⟩
                  · simp [Instr.lookup, run_und hu, checkKey_plain hp, hgo, hfk]
                  · subst hk
                    cases ok with
                    | true => simp [Rep, Reps]; exact hq2
                    | false => simpa using hq2
            · cases hk
          · cases hrun
        · cases hq
      · cases hq
    · cases hq
  · cases hq

theorem ba_eq {a b : ByteArray} (h : (a == b) = true) : a = b := by
  cases a with
  | mk x => cases b with
    | mk y =>
      have h' : (x == y) = true := h
      rw [eq_of_beq h']
theorem ba_refl (a : ByteArray) : (a == a) = true := by
  cases a with
  | mk x =>
    show (x == x) = true
    simp

theorem keyStays {k k' : Value} (h : keyEq k k' = some true) : (Instr.keyThatStays k' k).run P w = .ok k w := by
  unfold keyEq at h
  split at h
  · simp only [Option.some.injEq] at h; rw [ba_eq h]; simp [Instr.keyThatStays, Instr.sameBits, ba_refl]
  · split at h
    · rename_i e; subst e; simp at h; subst h; simp [Instr.keyThatStays, Instr.sameBits]
    · cases h
  · simp at h; subst h; simp [Instr.keyThatStays, Instr.sameBits]
  · cases h

theorem wrote_setObj {b : Nat} {o o' : Obj} (h : w.heap[b]? = some o) (hc : ∀ a e f, o ≠ Obj.cells a e f) :
    (setObj b o').run P w = .ok () { w with heap := w.heap.setIfInBounds b o' } ∧ Wrote w { w with heap := w.heap.setIfInBounds b o' } b o' := by
  have hlt := (Array.getElem?_eq_some_iff.1 h).1
  refine ⟨?_, ?_⟩
  · cases o <;> first | exact absurd rfl (hc _ _ _) | simp [setObj, Sem.run, h]
  · refine ⟨by simp [hlt], fun k hk => by simp [Array.getElem?_setIfInBounds_ne (Ne.symm hk)], by simp, rfl, rfl, rfl⟩

theorem store_map {t : TypeId} {d : TypeDesc} {k : Value} {x : AV} {v : Value} (hu : P.underlying t = some d) (h : plainKey P t k = true) (hx : Rep C w x v) :
    ∀ {es es' : List (Value × AV)} {ents : List MapEntry} (i : Nat), MapRep C w es ents → storeA k x es = some es' →
    (∃ j u old, Instr.findNow d k ents i = some (some (i + j, u)) ∧ ents[j]? = some old ∧ keyEq k old.key = some true ∧ ∀ C' w', Ext C w C' w' → MapRep C' w' es' (ents.modify j fun e => { e with key := k, val := v })) ∨
    (Instr.findNow d k ents i = some none ∧ ∀ C' w' born, Ext C w C' w' → MapRep C' w' es' (ents ++ [{ key := k, val := v, born }]))
  | [], es', ents, i, hm, hs => by
    cases hm; cases hs
    exact .inr ⟨rfl, fun C' w' born hE => .cons rfl (Rep.ext hE _ _ hx) .nil⟩
  | (k', y) :: es, es', ents, i, hm, hs => by
    cases hm with
    | cons h1 h2 h3 =>
      rename_i e ents'
      simp only [storeA] at hs
      subst h1
      split at hs
      · rename_i hk; cases hs
        refine .inl ⟨0, e.val, e, by simp [Instr.findNow, sameNow_plain hu h hk], rfl, hk, fun C' w' hE => ?_⟩
        exact .cons rfl (Rep.ext hE _ _ hx) (h3.ext hE)
      · rename_i hk
        rw [Option.map_eq_some_iff] at hs
        obtain ⟨r, hr, rfl⟩ := hs
        rcases store_map hu h hx (i + 1) h3 hr with ⟨j, u, old, g1, g2, g3, g4⟩ | ⟨g1, g2⟩
        · refine .inl ⟨j + 1, u, old, ?_, by simpa using g2, g3, fun C' w' hE => ?_⟩
          · simp only [Instr.findNow, sameNow_plain hu h hk]; rw [g1]; congr 3; omega
          · simp only [List.modify_succ_cons]
            exact .cons rfl (Rep.ext hE _ _ h2) (g4 C' w' hE)
        · refine .inr ⟨by simp [Instr.findNow, sameNow_plain hu h hk, g1], fun C' w' born hE => .cons rfl (Rep.ext hE _ _ h2) (g2 C' w' born hE)⟩
      · cases hs

theorem alike_map {a a' : Array MapEntry} {c c' : Nat} : Alike (Obj.map a c) (Obj.map a' c') := fun _ _ _ h => by cases h

def UOk (P : Program) (s : Sem Unit) (w : World) (Q : World → Prop) : Prop := ∃ w', s.run P w = .ok () w' ∧ Q w'

theorem mapUpdate_ok {t : TypeId} {xa ia ya : AV} {x ix y : Value} {r : Req} {m m' : AMem} {z : AV} {acc : Acc} (hq : mapUpdateReq P t xa ia ya = some r) (hrun : r.run m = some (z, m', acc)) (hS : Sim C w m) (hx : Rep C w xa x) (hi : Rep C w ia ix) (hy : Rep C w ya y) :
    UOk P (Instr.mapUpdate t x ix y) w fun w' => ∃ C', Post C w m C' w' m' ∧ z = .v undef := by
  unfold mapUpdateReq at hq
  split at hq
  · rename_i key elem hu
    split at hq
    · rename_i k
      split at hq
      · rename_i hp
        simp only [Rep] at hi; subst hi
        obtain ⟨d, hd⟩ := und_of_plain hp
        split at hq
        · cases hq
          simp only [Req.run] at hrun
          split at hrun
          · rename_i hro
            split at hrun
            · rename_i b hb
              rw [Option.map_eq_some_iff] at hrun
              obtain ⟨⟨b', y'⟩, hk, e⟩ := hrun
              cases e
              split at hk
              · rename_i es
                rw [Option.map_eq_some_iff] at hk
                obtain ⟨es', hst, e2⟩ := hk
                cases e2
                simp only [Rep] at hx
                obtain ⟨bi, hC, rfl⟩ := hx
                obtain ⟨bi', ents, clock, h1, h2, h3⟩ := hS.blk _ _ hb
                rw [hC] at h1; cases h1
                have hgo : (getObj bi.b).run P w = .ok (Obj.map ents clock) w := by simp [getObj, Sem.run, h2]
                rcases store_map (C := C) (w := w) hd hp hy 0 h3 hst with ⟨j, u, old, g1, g2, g3, g4⟩ | ⟨g1, g2⟩
                · have hset := wrote_setObj (P := P) (o' := Obj.map (ents.modify j fun e => { e with key := ix, val := y }) clock) h2 (by simp)
                  refine ⟨_, ?_, C, post_wrote hS hC hb (by simp) hro hset.2 h2 alike_map fun hE => ⟨bi, _, clock, hC, hset.2.at_, by simpa using g4 C _ hE⟩, rfl⟩
                  have g2' : ents[j]? = some old := by simpa using g2
                  simp [Instr.mapUpdate, run_und hu, hgo, checkKey_plain hp, run_findKey hd g1, g2', keyStays g3, hset.1]
                · have hset := wrote_setObj (P := P) (o' := Obj.map (ents.push { key := ix, val := y, born := clock }) (clock + 1)) h2 (by simp)
                  refine ⟨_, ?_, C, post_wrote hS hC hb (by simp) hro hset.2 h2 alike_map fun hE => ⟨bi, _, clock + 1, hC, hset.2.at_, by simpa using g2 C _ clock hE⟩, rfl⟩
                  simp [Instr.mapUpdate, run_und hu, hgo, checkKey_plain hp, run_findKey hd g1, hset.1]
              · cases hk
            · cases hrun
          · cases hrun
        · cases hq
      · cases hq
    · cases hq
  · cases hq
end
end Go.Den
