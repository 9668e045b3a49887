/-
  Operations that compute: arithmetic, comparisons, fields, elements, aggregates, slices of slices and strings. Conditions: as each statement says.
-/
import Derived.Test.YtnnajbbmgponpaaDenOps2
namespace Go.Den

def VOk (P : Program) (s : Sem Value) (w : World) (Q : Value → World → Prop) : Prop := ∃ v w', s.run P w = .ok v w' ∧ Q v w'

theorem VOk.of {P : Program} {s : Sem Value} {w w' : World} {v : Value} {Q : Value → World → Prop} (h : s.run P w = .ok v w') (q : Q v w') : VOk P s w Q := ⟨v, w', h, q⟩

section
variable {P : Program} {C : Cx} {w : World}

theorem vval {s : Sem Value} {x : Value} (h : s.run P w = .ok x w) : VOk P s w fun v w' => w' = w ∧ Rep C w (.v x) v := ⟨x, w, h, rfl, by simp [Rep]⟩

theorem run_eqGuard_other {op : BinOp} {t : TypeId} {x y : Operand} {a b : Value} (h1 : ¬ (a = .nilIface ∧ b = .nilIface)) (h2 : ¬ ((∃ u, a = .agg u) ∧ (∃ u, b = .agg u))) :
    (eqGuard op t x y a b).run P w = .ok () w := by
  unfold eqGuard
  cases op <;> simp <;> (cases a <;> cases b <;> simp_all)

theorem intBin_ok {op : BinOp} {t : TypeId} {k k' : IntKind} {a b : Int} {r : Value} (h : intBin op k a k' b = some r) : (binOp op t (.int k a) (.int k' b)).run P w = .ok r w := by
  cases op <;> simp only [intBin] at h <;>
    first
      | (split at h
         · rename_i hk; subst hk; first
            | (cases h; simp [binOp, Op.intArith, Op.intCmp, Op.intBits])
            | (split at h
               · cases h
               · rename_i h0; cases h; simp [binOp, Op.intDiv, h0])
         · cases h)
      | (split at h
         · cases h
         · rename_i h0; cases h; simp [binOp, Op.shift, h0])

theorem strBin_ok {op : BinOp} {t : TypeId} {a b : ByteArray} {r : Value} (h : strBin op a b = some r) : (binOp op t (.string a) (.string b)).run P w = .ok r w := by
  cases op <;> simp only [strBin] at h <;>
    first
      | (cases h; done)
      | (cases h; simp [binOp, Op.stringOp]; done)
      | (split at h
         · rename_i hle; cases h
           have : ¬ (((a.size + b.size : Nat) : Int) > IntKind.i64.max) := by
             have e : IntKind.i64.max = 9223372036854775807 := by decide
             rw [e]; omega
           simp only [binOp, Op.stringOp, this, if_false]; rfl
         · cases h)

theorem equalIn_ok {t : TypeId} {cst : Bool} {x y : AV} {r : Bool} {a b : Value} (d : Nat) (h : eqA P t cst x y = some r) (ha : Rep C w x a) (hb : Rep C w y b) :
    (Op.equalIn (d + 1) t a b).run P w = .ok r w ∧ (¬ ((∃ u, a = .agg u) ∧ (∃ u, b = .agg u))) ∧ ((a = .nilIface ∧ b = .nilIface) → cst = true) ∧
      binOp .eql t a b = (do pure (.bool (← Op.equal t a b))) ∧ binOp .neq t a b = (do pure (.bool (!(← Op.equal t a b)))) := by
  unfold eqA at h
  split at h <;> (try simp only [Rep] at ha hb)
  · rename_i hu; cases h; subst ha; subst hb
    exact ⟨by simp [Op.equalIn, run_und hu], by simp, by simp, by first | rfl | simp [binOp], by first | rfl | simp [binOp]⟩
  · rename_i hu; cases h; subst ha; subst hb
    exact ⟨by simp [Op.equalIn, run_und hu], by simp, by simp, by first | rfl | simp [binOp], by first | rfl | simp [binOp]⟩
  · rename_i hu; cases h; subst ha; obtain ⟨bi, _, rfl⟩ := hb
    exact ⟨by simp [Op.equalIn, run_und hu], by simp, by simp, by first | rfl | simp [binOp], by first | rfl | simp [binOp]⟩
  · rename_i hu; cases h; subst ha; obtain ⟨_, _, _, rfl, _⟩ := hb
    exact ⟨by simp [Op.equalIn, run_und hu], by simp, by simp, by first | rfl | simp [binOp], by first | rfl | simp [binOp]⟩
  · rename_i hu; cases h; subst hb; obtain ⟨bi, _, rfl⟩ := ha
    exact ⟨by simp [Op.equalIn, run_und hu], by simp, by simp, by first | rfl | simp [binOp], by first | rfl | simp [binOp]⟩
  · rename_i hu; cases h; subst hb; obtain ⟨_, _, _, rfl, _⟩ := ha
    exact ⟨by simp [Op.equalIn, run_und hu], by simp, by simp, by first | rfl | simp [binOp], by first | rfl | simp [binOp]⟩
  · rename_i hu; cases h; subst ha; subst hb
    exact ⟨by simp [Op.equalIn, run_und hu], by simp, by simp, by first | rfl | simp [binOp], by first | rfl | simp [binOp]⟩
  · rename_i hu; cases h; subst ha; obtain ⟨_, _, rfl, _⟩ := hb
    exact ⟨by simp [Op.equalIn, run_und hu], by simp, by simp, by first | rfl | simp [binOp], by first | rfl | simp [binOp]⟩
  · rename_i hu; cases h; subst ha; obtain ⟨_, _, _, _, rfl, _⟩ := hb
    exact ⟨by simp [Op.equalIn, run_und hu], by simp, by simp, by first | rfl | simp [binOp], by first | rfl | simp [binOp]⟩
  · rename_i hu; cases h; subst hb; obtain ⟨_, _, rfl, _⟩ := ha
    exact ⟨by simp [Op.equalIn, run_und hu], by simp, by simp, by first | rfl | simp [binOp], by first | rfl | simp [binOp]⟩
  · rename_i hu; cases h; subst hb; obtain ⟨_, _, _, _, rfl, _⟩ := ha
    exact ⟨by simp [Op.equalIn, run_und hu], by simp, by simp, by first | rfl | simp [binOp], by first | rfl | simp [binOp]⟩
  · rename_i hu; subst ha; subst hb
    split at h
    · rename_i hc; cases h
      exact ⟨by simp [Op.equalIn, run_und hu], by simp, fun _ => hc, by first | rfl | simp [binOp], by first | rfl | simp [binOp]⟩
    · cases h
  · rename_i hu; cases h; subst ha; obtain ⟨_, rfl, _⟩ := hb
    exact ⟨by simp [Op.equalIn, run_und hu], by simp, by simp, by first | rfl | simp [binOp], by first | rfl | simp [binOp]⟩
  · rename_i hu; cases h; subst hb; obtain ⟨_, rfl, _⟩ := ha
    exact ⟨by simp [Op.equalIn, run_und hu], by simp, by simp, by first | rfl | simp [binOp], by first | rfl | simp [binOp]⟩
  · rename_i hu; cases h; subst ha; subst hb
    exact ⟨by simp [Op.equalIn, run_und hu], by simp, by simp, by first | rfl | simp [binOp], by first | rfl | simp [binOp]⟩
  · rename_i hu; cases h; subst ha; obtain ⟨_, _, rfl, _⟩ := hb
    exact ⟨by simp [Op.equalIn, run_und hu], by simp, by simp, by first | rfl | simp [binOp], by first | rfl | simp [binOp]⟩
  · rename_i hu; cases h; subst hb; obtain ⟨_, _, rfl, _⟩ := ha
    exact ⟨by simp [Op.equalIn, run_und hu], by simp, by simp, by first | rfl | simp [binOp], by first | rfl | simp [binOp]⟩
  · cases h

theorem run_equal_of {t : TypeId} {a b : Value} {r : Bool} (h : ∀ d, (Op.equalIn (d + 1) t a b).run P w = .ok r w) : (Op.equal t a b).run P w = .ok r w := h 9999

theorem bin_ok {op : BinOp} {t : TypeId} {x y : Operand} {xa ya r : AV} {a b : Value} (h : absBin P op t (isConstOp x || isConstOp y) xa ya = some r) (ha : Rep C w xa a) (hb : Rep C w ya b) :
    VOk P (do eqGuard op t x y a b; binOp op t a b) w fun v w' => w' = w ∧ Rep C w r v := by
  unfold absBin at h
  split at h
  · rename_i k n k' n'
    simp only [Rep] at ha hb; subst ha; subst hb
    rw [Option.map_eq_some_iff] at h
    obtain ⟨v, hv, rfl⟩ := h
    exact .of (v := v) (w' := w) (by simp [run_eqGuard_other, intBin_ok hv]) ⟨rfl, by simp [Rep]⟩
  · simp only [Rep] at ha hb; subst ha; subst hb
    rw [Option.map_eq_some_iff] at h
    obtain ⟨v, hv, rfl⟩ := h
    exact .of (v := v) (w' := w) (by simp [run_eqGuard_other, strBin_ok hv]) ⟨rfl, by simp [Rep]⟩
  · split at h
    · rw [Option.map_eq_some_iff] at h
      obtain ⟨q, hq, rfl⟩ := h
      obtain ⟨_, h2, h3, h4, h5⟩ := equalIn_ok 0 hq ha hb
      have h1 := run_equal_of (P := P) fun d => (equalIn_ok d hq ha hb).1
      refine .of (v := .bool q) (w' := w) ?_ ⟨rfl, by simp [Rep]⟩
      have hg : (eqGuard .eql t x y a b).run P w = .ok () w := by
        by_cases hn : a = .nilIface ∧ b = .nilIface
        · obtain ⟨rfl, rfl⟩ := hn
          have := h3 ⟨rfl, rfl⟩
          cases x <;> cases y <;> simp [isConstOp] at this <;> simp [eqGuard]
        · exact run_eqGuard_other hn h2
      rw [h4]
      simp [hg, h1]
    · rw [Option.map_eq_some_iff] at h
      obtain ⟨q, hq, rfl⟩ := h
      obtain ⟨_, h2, h3, h4, h5⟩ := equalIn_ok 0 hq ha hb
      have h1 := run_equal_of (P := P) fun d => (equalIn_ok d hq ha hb).1
      refine .of (v := .bool !q) (w' := w) ?_ ⟨rfl, by simp [Rep]⟩
      have hg : (eqGuard .neq t x y a b).run P w = .ok () w := by
        by_cases hn : a = .nilIface ∧ b = .nilIface
        · obtain ⟨rfl, rfl⟩ := hn
          have := h3 ⟨rfl, rfl⟩
          cases x <;> cases y <;> simp [isConstOp] at this <;> simp [eqGuard]
        · exact run_eqGuard_other hn h2
      rw [h5]
      simp [hg, h1]
    · cases h

theorem un_ok {op : UnOp} {xa r : AV} {a : Value} (h : absUn op xa = some r) (ha : Rep C w xa a) : VOk P (Op.unary op a) w fun v w' => w' = w ∧ Rep C w r v := by
  unfold absUn at h
  split at h
  · cases h; simp only [Rep] at ha; subst ha
    exact ⟨_, _, rfl, rfl, by simp [Rep]⟩
  · cases h; simp only [Rep] at ha; subst ha
    exact ⟨_, _, rfl, rfl, by simp [Rep]⟩
  · cases h

theorem convert_ok {src dst : TypeId} {xa r : AV} {a : Value} (h : convertA P src dst xa = some r) (ha : Rep C w xa a) : VOk P (convert src dst a) w fun v w' => w' = w ∧ Rep C w r v := by
  unfold convertA at h
  split at h
  · rename_i hs hd; cases h; simp only [Rep] at ha; subst ha
    exact vval (by simp [convert, run_und hs, run_und hd, Conv.intToInt])
  · rename_i hs hd; cases h; simp only [Rep] at ha; subst ha
    exact vval (by simp [convert, run_und hs, run_und hd])
  · cases h

theorem index_val {k : IntKind} {n : Int} : (asIntOf (.int k n)).run P w = .ok (k, n) w := by simp [asIntOf]

theorem field_ok {t : TypeId} {f : Nat} {fd : Field} {cs : List AV} {r : AV} {a : Value} (hf : fieldOf P t f = some fd) (hp : partA P fd.type cs fd.offset = some r) (ha : Rep C w (.agg cs) a) :
    VOk P (Instr.field t a f) w fun v w' => w' = w ∧ Rep C w r v := by
  simp only [Rep] at ha
  obtain ⟨ys, rfl, hr, ho⟩ := ha
  unfold fieldOf at hf
  split at hf
  · rename_i fs hu
    obtain ⟨v, hv, hrv⟩ := run_partV hr ho hp
    exact .of (v := v) (w' := w) (by simp [Instr.field, run_und hu, hf, asAgg, hv]) ⟨rfl, hrv⟩
  · cases hf

theorem byteAt (s : ByteArray) (i : Nat) : s.data.toList[i]? = s[i]? := by
  rw [Array.getElem?_toList]
  rfl

theorem index_ok {t : TypeId} {xa ia r : AV} {x ix : Value} (h : indexReq P t xa ia = some (.val r)) (hx : Rep C w xa x) (hi : Rep C w ia ix) :
    VOk P (Instr.index t x ix) w fun v w' => w' = w ∧ Rep C w r v := by
  unfold indexReq at h
  split at h
  · rename_i k i
    simp only [Rep] at hi; subst hi
    split at h
    · rename_i len elem cs hu
      split at h
      · rename_i hb
        rw [Option.bind_eq_some_iff] at h
        obtain ⟨sz, hsz, h⟩ := h
        rw [Option.map_eq_some_iff] at h
        obtain ⟨q, hq, e⟩ := h
        cases e
        simp only [Rep] at hx
        obtain ⟨ys, rfl, hr, ho⟩ := hx
        obtain ⟨v, hv, hrv⟩ := run_partV hr ho hq
        exact .of (v := v) (w' := w) (by simp [Instr.index, index_val, run_und hu, hb, run_size hsz, hv]) ⟨rfl, hrv⟩
      · cases h
    · rename_i s hu
      split at h
      · rename_i hb
        rw [Option.map_eq_some_iff] at h
        obtain ⟨q, hq, e⟩ := h
        cases e
        simp only [Rep] at hx; subst hx
        rw [byteAt] at hq
        refine .of (v := .int .u8 q.toNat) (w' := w) ?_ ⟨rfl, by simp [Rep]⟩
        simp [Instr.index, index_val, run_und hu, hb, hq]
      · cases h
    · cases h
  · cases h

theorem part_eref {t : TypeId} {e r : AV} {off : Nat} {a : Value} (hp : partE P t e off = some r) (ha : Rep C w (.eref e) a) :
    ∃ b o, a = .pointer (some ⟨b, o, none⟩) ∧ ∃ v, (loadVar t ⟨b, o + off, none⟩).run P w = .ok v w ∧ Rep C w r v ∧ Rep C w (.eref r) (.pointer (some ⟨b, o + off, none⟩)) := by
  simp only [Rep] at ha
  obtain ⟨b, o, v, rfl, h1, h2⟩ := ha
  unfold partE at hp
  split at hp
  · rename_i hpl
    obtain ⟨hr, _⟩ := rep_cells hpl h1
    obtain ⟨u, hu1, hu2, hu3⟩ := run_part (off := off) hr h2 hp
    refine ⟨b, o, rfl, u, hu1, hu2, ?_⟩
    simp only [Rep]
    exact ⟨b, o + off, u, rfl, hu2, hu3⟩
  · cases hp

theorem run_fieldPlace {b o : Nat} {f : Field} {k : Nat} (hs : sizeA P f.type = some (k + 1)) : (fieldPlace ⟨b, o, none⟩ f).run P w = .ok ⟨b, o + f.offset, none⟩ w := by
  simp [fieldPlace, run_size hs, add_none]

theorem fieldAddr_ok {t : TypeId} {f : Nat} {xa r : AV} {x : Value} (h : fieldAddrReq P t xa f = some (.val r)) (hx : Rep C w xa x) : VOk P (Instr.fieldAt t x f) w fun v w' => w' = w ∧ Rep C w r v := by
  unfold fieldAddrReq at h
  split at h
  · rename_i fd hf
    unfold fieldOf at hf
    split at hf
    · rename_i fs hu
      split at h
      · rename_i k hk
        split at h
        · cases h
          simp only [Rep] at hx
          obtain ⟨bi, hC, rfl⟩ := hx
          refine .of (w' := w) (by simp [Instr.fieldAt, run_und hu, hf, Instr.sureAddr, run_fieldPlace hk]; rfl) ⟨rfl, ?_⟩
          simp only [Rep]
          exact ⟨bi, hC, by simp [Nat.add_assoc]⟩
        · rw [Option.map_eq_some_iff] at h
          obtain ⟨q, hq, e⟩ := h
          cases e
          obtain ⟨b, o, rfl, v, _, _, hr⟩ := part_eref hq hx
          exact .of (w' := w) (by simp [Instr.fieldAt, run_und hu, hf, Instr.sureAddr, run_fieldPlace hk]) ⟨rfl, hr⟩
        · cases h
      · cases h
    · cases hf
  · cases h

theorem indexAddr_ok {t : TypeId} {xa ia r : AV} {x ix : Value} (h : indexAddrReq P t xa ia = some (.val r)) (hx : Rep C w xa x) (hi : Rep C w ia ix) :
    VOk P (Instr.indexAt t x ix) w fun v w' => w' = w ∧ Rep C w r v := by
  unfold indexAddrReq at h
  split at h
  · rename_i k i
    simp only [Rep] at hi; subst hi
    split at h
    · rename_i elem sz es c hu
      split at h
      · rename_i hb
        rw [Option.map_eq_some_iff] at h
        obtain ⟨e, he, h⟩ := h
        cases h
        simp only [Rep] at hx
        obtain ⟨a0, cap, rfl, hle, hsp, hel, _⟩ := hx
        have hlt := (List.getElem?_eq_some_iff.1 he).1
        have hb2 : 0 ≤ i ∧ i < (es.length : Int) := ⟨hb.1, by omega⟩
        obtain ⟨b, off, hab⟩ : ∃ b off, a0 = ⟨b, off, none⟩ := ⟨_, _, addr_eta (hsp.resolve_right (fun h => by rw [h] at hlt; simp at hlt))⟩
        subst hab
        obtain ⟨v, h1, h2, h3⟩ := hel.get he
        refine .of (v := .pointer (some ⟨b, off + i.toNat * sz, none⟩)) (w' := w) ?_ ⟨rfl, ?_⟩
        · simp [Instr.indexAt, index_val, run_und hu, hb2, run_size hb.2, add_none]
        · simp only [Rep]
          exact ⟨b, off + i.toNat * sz, v, rfl, h1, h3⟩
      · cases h
    · rename_i elem sz id off n hu
      split at h
      · rename_i hb
        cases h
        simp only [Rep] at hx
        obtain ⟨bi, cap, hC, hsz, rfl, hle, _⟩ := hx
        refine .of (v := .pointer (some ⟨bi.b, off * bi.sz + i.toNat * sz, none⟩)) (w' := w) ?_ ⟨rfl, ?_⟩
        · simp [Instr.indexAt, index_val, run_und hu, hb.1, hb.2.1, run_size hb.2.2, add_none]
        · simp only [Rep]
          exact ⟨bi, hC, by rw [← hsz, Nat.add_zero, Nat.add_mul]⟩
      · cases h
    · rename_i len elem id j off hu
      split at h
      · rename_i hb
        rw [Option.map_eq_some_iff] at h
        obtain ⟨sz, hsz, h⟩ := h
        cases h
        simp only [Rep] at hx
        obtain ⟨bi, hC, rfl⟩ := hx
        refine .of (v := .pointer (some ⟨bi.b, j * bi.sz + off + i.toNat * sz, none⟩)) (w' := w) ?_ ⟨rfl, ?_⟩
        · simp [Instr.indexAt, index_val, run_und hu, Instr.sureAddr, hb.1, hb.2, run_size hsz, add_none]
        · simp only [Rep]
          exact ⟨bi, hC, by rw [Nat.add_assoc]⟩
      · cases h
    · rename_i len elem e hu
      split at h
      · rename_i hb
        rw [Option.bind_eq_some_iff] at h
        obtain ⟨sz, hsz, h⟩ := h
        rw [Option.map_eq_some_iff] at h
        obtain ⟨q, hq, h⟩ := h
        cases h
        obtain ⟨b, o, rfl, v, _, _, hr⟩ := part_eref hq hx
        refine .of (w' := w) ?_ ⟨rfl, hr⟩
        simp [Instr.indexAt, index_val, run_und hu, Instr.sureAddr, hb.1, hb.2, run_size hsz, add_none]
      · cases h
    · cases h
  · cases h

theorem run_bound {k : IntKind} {i : Int} {y : Nat} {code : BoundsCode} (h : 0 ≤ i ∧ i ≤ y) : (Instr.sliceBound (.int k i) y code).run P w = .ok i.toNat w := by
  simp [Instr.sliceBound, index_val, h]

/-- An optional bound's value: the int, or the default. -/
def bnd (d : Int) (x : Option Value) : Option Int :=
  match x with
  | none => some d
  | some (.int _ i) => some i
  | _ => none

theorem run_bounds {isS : Bool} {len cap : Nat} {lo hi : Option Value} {l h : Int} (hlo : bnd 0 lo = some l) (hhi : bnd len hi = some h) (h0 : 0 ≤ l) (h1 : l ≤ h) (h2 : h ≤ cap) :
    (Instr.sliceBounds isS len cap lo hi none).run P w = .ok (l.toNat, h.toNat, cap) w := by
  have e2 : ∀ {c : BoundsCode}, (match hi with | some v => Instr.sliceBound v cap c | none => (pure len : Sem Nat)).run P w = .ok h.toNat w := by
    intro c
    cases hi with
    | none => simp [bnd] at hhi; subst hhi; simp
    | some v => cases v <;> simp [bnd] at hhi; subst hhi; exact run_bound ⟨by omega, h2⟩
  have e1 : ∀ {c : BoundsCode}, (match lo with | some v => Instr.sliceBound v h.toNat c | none => (pure 0 : Sem Nat)).run P w = .ok l.toNat w := by
    intro c
    cases lo with
    | none => simp [bnd] at hlo; subst hlo; simp
    | some v => cases v <;> simp [bnd] at hlo; subst hlo; exact run_bound ⟨h0, by omega⟩
  unfold Instr.sliceBounds
  cases hi with
  | none =>
    have e2' := e2 (c := .index); simp only at e2'
    cases lo with
    | none => have e1' := e1 (c := .index); simp only at e1'; simp at e1' e2' ⊢; simp [e2']; omega
    | some v => have e1' := e1 (c := .sliceB); simp only at e1'; simp at e2'; simp [e1', e2']
  | some u =>
    cases lo with
    | none => have e1' := e1 (c := .index); simp at e1'; cases isS <;> (have e2' := e2 (c := .sliceAlen); have e2'' := e2 (c := .sliceAcap); simp only at e2' e2''; simp [e2', e2'', ← e1'])
    | some v => have e1' := e1 (c := .sliceB); simp only at e1'; cases isS <;> (have e2' := e2 (c := .sliceAlen); have e2'' := e2 (c := .sliceAcap); simp only at e2' e2''; simp [e2', e2'', e1'])

end
end Go.Den
