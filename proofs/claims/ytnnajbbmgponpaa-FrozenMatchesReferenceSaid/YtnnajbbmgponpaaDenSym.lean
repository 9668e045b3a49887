/-
  Rewriting through the abstract interpreter: the equations by which a function's text is stepped through on values that are not known. Conditions: as each statement says.
-/
import Derived.Test.YtnnajbbmgponpaaDenDef
import Derived.IntWalk
namespace Go.Den

abbrev I (n : Int) : AV := .v (.int .i64 n)
abbrev B (b : Bool) : AV := .v (.bool b)
abbrev nilP : AV := .v (.pointer none)

section
variable {P : Program} {cfg : FuncId → FCfg} {rec : Task → AMem → Option (AV × AMem)}

/-- A call of which nothing but the result is kept. -/
def pcall (rec : Task → AMem → Option (AV × AMem)) (g : FuncId) (args : List AV) (m : AMem) : Option AV :=
  match rec (.call g args) { m with ro := m.blks.length, live := [] } with
  | some (r, m') => some (conv m' m.blks.length m.next r)
  | none => none

/-- A call that may write what was there. -/
def mcall (rec : Task → AMem → Option (AV × AMem)) (g : FuncId) (args : List AV) (m : AMem) : Option (AV × AMem) :=
  match rec (.call g args) m with
  | some (r, m') => some (conv m' m.blks.length m'.next r, m'.shrink m.blks.length)
  | none => none

theorem callReq_pure {g : FuncId} {args : List AV} (h : (cfg g).pol = .pure) : callReq cfg rec g args = .all (pcall rec g args) := by
  unfold callReq; rw [h]; rfl
theorem callReq_meth {g : FuncId} {args : List AV} (h : (cfg g).pol = .meth) : callReq cfg rec g args = .eff (mcall rec g args) := by
  unfold callReq; rw [h]; rfl
theorem callReq_keep {g : FuncId} {args : List AV} (h : (cfg g).pol = .keep) : callReq cfg rec g args = .eff (rec (.call g args)) := by
  unfold callReq; rw [h]

/-- What is handed back where a function's text ends. -/
def finish (P : Program) (rs : List ResultVar) (x : Option (AExit × St)) : Option (AV × AMem) :=
  match x with
  | some (.exit _, _) => none
  | some (_, st) => match setGone st.m st.marks with
    | some m' => match resultsA P st.s m' rs with
      | some xs => some (oneOf xs, m')
      | none => none
    | none => none
  | none => none

theorem den_call {n : Nat} {f : FuncId} {args : List AV} {m : AMem} {fn : Func} {c : Code} (hf : P.funcs[f]? = some fn) (hc : fn.body = some c) :
    den P cfg (n + 1) (.call f args) m = finish P fn.results.toList (exec P cfg (den P cfg n) n f none (cfg f).mask c { s := args ++ List.replicate (fn.ntmps - args.length) (.v undef), m, marks := [] }) := by
  show stepCall P cfg (den P cfg n) n f args m = _
  have hb : bodyOf P f = some (fn, c) := by
    unfold bodyOf
    simp only [hf, hc]
  unfold stepCall
  rw [hb]
  rfl

theorem pcall_of {g : FuncId} {args : List AV} {m : AMem} {r : AV} {m' : AMem} (h : rec (.call g args) { m with ro := m.blks.length, live := [] } = some (r, m')) : pcall rec g args m = some (conv m' m.blks.length m.next r) := by
  unfold pcall; rw [h]

theorem pcall_v {g : FuncId} {args : List AV} {m : AMem} {x : Value} (h : ∃ m', rec (.call g args) { m with ro := m.blks.length, live := [] } = some (.v x, m')) : pcall rec g args m = some (.v x) := by
  obtain ⟨m', h⟩ := h
  rw [pcall_of h]
  simp [conv, convN, conv1]

theorem mcall_of {g : FuncId} {args : List AV} {m : AMem} {r : AV} {m' : AMem} (h : rec (.call g args) m = some (r, m')) : mcall rec g args m = some (conv m' m.blks.length m'.next r, m'.shrink m.blks.length) := by
  unfold mcall; rw [h]

theorem den_round {n id : Nat} {args : List AV} {m : AMem} : den P cfg (n + 1) (.round id args) m = stepRound P cfg (den P cfg n) n id args m := rfl

/-- The bodies of a text's loops, and of its ranges over functions. -/
noncomputable def loopsOf : Code → List Code
  | .seq a b => loopsOf a ++ loopsOf b
  | .cond _ a b => loopsOf a ++ loopsOf b
  | .block _ c => loopsOf c
  | .loop c => c :: loopsOf c
  | .rangeFunc _ _ a b => loopsOf a ++ loopsOf b
  | _ => []
noncomputable def rangesOf : Code → List (Code × Code)
  | .seq a b => rangesOf a ++ rangesOf b
  | .cond _ a b => rangesOf a ++ rangesOf b
  | .block _ c => rangesOf c
  | .loop c => rangesOf c
  | .rangeFunc _ _ a b => (a, b) :: (rangesOf a ++ rangesOf b)
  | _ => []
noncomputable def codeOf (f : Func) : Code := f.body.getD .skip
noncomputable def loopOf (f : Func) (i : Nat) : Code := (loopsOf (codeOf f)).getD i .skip
noncomputable def rangeOf (f : Func) (i : Nat) : Code × Code := (rangesOf (codeOf f)).getD i (.skip, .skip)

theorem get_app_len {α : Type} (l r : List α) : (l ++ r)[l.length]? = r[0]? := by rw [List.getElem?_append_right (Nat.le_refl _), Nat.sub_self]
theorem get_app_add {α : Type} (l r : List α) (k : Nat) : (l ++ r)[l.length + k]? = r[k]? := by rw [List.getElem?_append_right (Nat.le_add_right _ _), Nat.add_sub_cancel_left]
theorem set_app_len {α : Type} (l r : List α) (x : α) : (l ++ r).set l.length x = l ++ r.set 0 x := by simp
theorem set_app_add {α : Type} (l r : List α) (k : Nat) (x : α) : (l ++ r).set (l.length + k) x = l ++ r.set k x := by simp
theorem get_app_lt {α : Type} {l r : List α} {k : Nat} (h : k < l.length) : (l ++ r)[k]? = l[k]? := List.getElem?_append_left h
theorem set_app_lt {α : Type} {l r : List α} {k : Nat} {x : α} (h : k < l.length) : (l ++ r).set k x = l.set k x ++ r := by rw [List.set_append_left _ _ h]

/-- The number of a frame's slots, where it is not to be looked into. -/
def slen (s : List AV) : Nat := s.length
@[simp] theorem slen_set (s : List AV) (i : Nat) (x : AV) : slen (s.set i x) = slen s := by simp [slen]
@[simp] theorem get_set_self {s : List AV} {i : Nat} {x : AV} (h : i < slen s) : (s.set i x)[i]? = some x := List.getElem?_set_self h
@[simp] theorem get_set_ne {s : List AV} {i j : Nat} {x : AV} (h : i ≠ j) : (s.set i x)[j]? = s[j]? := List.getElem?_set_ne h

/-! ### The steps, each waiting for one thing alone: what does not wait is not looked at -/
def seqK (P : Program) (cfg : FuncId → FCfg) (rec : Task → AMem → Option (AV × AMem)) (n : Nat) (fn : FuncId) (around : Option Nat) (mask : List Bool) (b : Code) : Option (AExit × St) → Option (AExit × St)
  | some (.normal, st') => exec P cfg rec n fn around mask b st'
  | r => r

def blockK (id : Nat) : Option (AExit × St) → Option (AExit × St)
  | some (.exit i, st') => bif i == id then some (.normal, st') else some (.exit i, st')
  | r => r

def condK (P : Program) (cfg : FuncId → FCfg) (rec : Task → AMem → Option (AV × AMem)) (n : Nat) (fn : FuncId) (around : Option Nat) (mask : List Bool) (x y : Code) (st : St) : AV → Option (AExit × St)
  | .v (.bool t) => cond t (exec P cfg rec n fn around mask x st) (exec P cfg rec n fn around mask y st)
  | _ => none

def regK : Option St → Option (AExit × St)
  | some st' => some (.normal, st')
  | none => none

def loopK (mask : List Bool) (body : St → Option (AExit × St)) (n : Nat) : Option (AExit × St) → Option (AExit × St)
  | some (.normal, st') => loopN mask body n st'
  | r => r

def opsK (P : Program) (cfg : FuncId → FCfg) (rec : Task → AMem → Option (AV × AMem)) (ops : List Oper) (fresh : Nat) (rest : List Oper) : Option (St × Acc) → Option (St × List Acc)
  | some (st', a) => match exOps P cfg rec ops fresh rest st' with
    | some (st'', as) => some (st'', a :: as)
    | none => none
  | none => none

def consK (a : Acc) : Option (St × List Acc) → Option (St × List Acc)
  | some (st'', as) => some (st'', a :: as)
  | none => none

def wantK (P : Program) (cfg : FuncId → FCfg) (rec : Task → AMem → Option (AV × AMem)) (fresh : Nat) (o : Oper) (st : St) : Option Bool → Option (St × Acc)
  | some true => match req P cfg rec (ev st.s) fresh o.op with
    | some r => match r.run st.m with
      | some (x, m', a) => some ({ st with s := put st.s o.dst x, m := m' }, a)
      | none => none
    | none => none
  | some false => some ({ st with s := put st.s o.dst (.v undef) }, .none)
  | none => none

def reqK (st : St) (d : Option Tmp) : Option Req → Option (St × Acc)
  | some r => match r.run st.m with
    | some (x, m', a) => some ({ st with s := put st.s d x, m := m' }, a)
    | none => none
  | none => none

def putK (st : St) (d : Option Tmp) : Option (AV × AMem × Acc) → Option (St × Acc)
  | some (x, m', a) => some ({ st with s := put st.s d x, m := m' }, a)
  | none => none

def drawK (ops : Array Oper) (draw : Bool) : Option (St × List Acc) → Option St
  | some (st', as) => bif !draw || as.all quietAcc || freeAll (Region.before ops) as then some st' else none
  | none => none

@[congr] theorem seqK_cong {n : Nat} {fn : FuncId} {around : Option Nat} {mask : List Bool} {b : Code} {x y : Option (AExit × St)} (h : x = y) : seqK P cfg rec n fn around mask b x = seqK P cfg rec n fn around mask b y := by rw [h]
@[congr] theorem blockK_cong {id : Nat} {x y : Option (AExit × St)} (h : x = y) : blockK id x = blockK id y := by rw [h]
@[congr] theorem condK_cong {n : Nat} {fn : FuncId} {around : Option Nat} {mask : List Bool} {a b : Code} {st : St} {x y : AV} (h : x = y) : condK P cfg rec n fn around mask a b st x = condK P cfg rec n fn around mask a b st y := by rw [h]
@[congr] theorem regK_cong {x y : Option St} (h : x = y) : regK x = regK y := by rw [h]
@[congr] theorem loopK_cong {mask : List Bool} {body : St → Option (AExit × St)} {n : Nat} {x y : Option (AExit × St)} (h : x = y) : loopK mask body n x = loopK mask body n y := by rw [h]
@[congr] theorem opsK_cong {ops : List Oper} {fresh : Nat} {rest : List Oper} {x y : Option (St × Acc)} (h : x = y) : opsK P cfg rec ops fresh rest x = opsK P cfg rec ops fresh rest y := by rw [h]
@[congr] theorem consK_cong {a : Acc} {x y : Option (St × List Acc)} (h : x = y) : consK a x = consK a y := by rw [h]
@[congr] theorem wantK_cong {fresh : Nat} {o : Oper} {st : St} {x y : Option Bool} (h : x = y) : wantK P cfg rec fresh o st x = wantK P cfg rec fresh o st y := by rw [h]
@[congr] theorem reqK_cong {st : St} {d : Option Tmp} {x y : Option Req} (h : x = y) : reqK st d x = reqK st d y := by rw [h]
@[congr] theorem putK_cong {st : St} {d : Option Tmp} {x y : Option (AV × AMem × Acc)} (h : x = y) : putK st d x = putK st d y := by rw [h]
@[congr] theorem drawK_cong {ops : Array Oper} {draw : Bool} {x y : Option (St × List Acc)} (h : x = y) : drawK ops draw x = drawK ops draw y := by rw [h]
@[congr] theorem exec_cong {n n' : Nat} {fn : FuncId} {around : Option Nat} {mask : List Bool} {c : Code} {st st' : St} (h : n = n') (h2 : st = st') : exec P cfg rec n fn around mask c st = exec P cfg rec n' fn around mask c st' := by rw [h, h2]
@[congr] theorem exOps_cong {ops : List Oper} {fresh fresh' : Nat} {rest : List Oper} {st st' : St} (h : fresh = fresh') (h2 : st = st') : exOps P cfg rec ops fresh rest st = exOps P cfg rec ops fresh' rest st' := by rw [h, h2]
@[congr] theorem ex1_cong {ops : List Oper} {fresh fresh' : Nat} {o : Oper} {st st' : St} (h : fresh = fresh') (h2 : st = st') : ex1 P cfg rec ops fresh o st = ex1 P cfg rec ops fresh' o st' := by rw [h, h2]

section
variable {n : Nat} {fn : FuncId} {around : Option Nat} {mask : List Bool}
@[simp] theorem exec_skip (st : St) : exec P cfg rec n fn around mask .skip st = some (.normal, st) := rfl
@[simp] theorem exec_label (l : Nat) (st : St) : exec P cfg rec n fn around mask (.label l) st = some (.normal, st) := rfl
@[simp] theorem exec_region (i : Nat) (ops : Array Oper) (draw : Bool) (st : St) : exec P cfg rec n fn around mask (.region i ops draw) st = regK (exRegion P cfg rec ops draw st) := rfl
@[simp] theorem exec_seq (a b : Code) (st : St) : exec P cfg rec n fn around mask (.seq a b) st = seqK P cfg rec n fn around mask b (exec P cfg rec n fn around mask a st) := rfl
@[simp] theorem exec_cond (c : Operand) (x y : Code) (st : St) : exec P cfg rec n fn around mask (.cond c x y) st = condK P cfg rec n fn around mask x y st (ev st.s c) := rfl
@[simp] theorem exec_block (id : Nat) (c : Code) (st : St) : exec P cfg rec n fn around mask (.block id c) st = blockK id (exec P cfg rec n fn around mask c st) := by
  show (match exec P cfg rec n fn around mask c st with | some (AExit.exit i, st') => if i = id then some (AExit.normal, st') else some (AExit.exit i, st') | r => r) = _
  unfold blockK
  split <;> (try rfl)
  rename_i i st' h
  by_cases hi : i = id
  · simp [hi]
  · have hb : (i == id) = false := by simp [hi]
    simp [hi, hb]
@[simp] theorem exec_loop (c : Code) (st : St) : exec P cfg rec n fn around mask (.loop c) st = loopN mask (exec P cfg rec n fn around mask c) n st := rfl
@[simp] theorem exec_exit (id : Nat) (st : St) : exec P cfg rec n fn around mask (.exit id) st = some (.exit id, st) := rfl
@[simp] theorem exec_ret (st : St) : exec P cfg rec n fn around mask .ret st = some (.ret, st) := rfl
@[simp] theorem exec_range (g : Operand) (ps : Array Tmp) (assign body : Code) (st : St) : exec P cfg rec n fn around mask (.rangeFunc g ps assign body) st = exRange rec fn around g ps assign body st := rfl
@[simp] theorem seqK_normal (b : Code) (st : St) : seqK P cfg rec n fn around mask b (some (.normal, st)) = exec P cfg rec n fn around mask b st := rfl
@[simp] theorem seqK_exit (b : Code) (i : Nat) (st : St) : seqK P cfg rec n fn around mask b (some (.exit i, st)) = some (.exit i, st) := rfl
@[simp] theorem seqK_ret (b : Code) (st : St) : seqK P cfg rec n fn around mask b (some (.ret, st)) = some (.ret, st) := rfl
@[simp] theorem condK_bool (x y : Code) (st : St) (t : Bool) : condK P cfg rec n fn around mask x y st (.v (.bool t)) = cond t (exec P cfg rec n fn around mask x st) (exec P cfg rec n fn around mask y st) := rfl
end
@[simp] theorem blockK_normal (id : Nat) (st : St) : blockK id (some (.normal, st)) = some (.normal, st) := rfl
@[simp] theorem blockK_exit (id i : Nat) (st : St) : blockK id (some (.exit i, st)) = bif i == id then some (.normal, st) else some (.exit i, st) := rfl
@[simp] theorem blockK_ret (id : Nat) (st : St) : blockK id (some (.ret, st)) = some (.ret, st) := rfl
@[simp] theorem regK_some (st : St) : regK (some st) = some (.normal, st) := rfl
@[simp] theorem loopN_succ (mask : List Bool) (body : St → Option (AExit × St)) (n : Nat) (st : St) : loopN mask body (n + 1) st = loopK mask body n (body { st with s := clrS mask st.s }) := rfl
@[simp] theorem loopK_normal (mask : List Bool) (body : St → Option (AExit × St)) (n : Nat) (st : St) : loopK mask body n (some (.normal, st)) = loopN mask body n st := rfl
@[simp] theorem loopK_exit (mask : List Bool) (body : St → Option (AExit × St)) (n i : Nat) (st : St) : loopK mask body n (some (.exit i, st)) = some (.exit i, st) := rfl
@[simp] theorem loopK_ret (mask : List Bool) (body : St → Option (AExit × St)) (n : Nat) (st : St) : loopK mask body n (some (.ret, st)) = some (.ret, st) := rfl
@[simp] theorem exRegion_eq (ops : Array Oper) (draw : Bool) (st : St) : exRegion P cfg rec ops draw st = drawK ops draw (exOps P cfg rec ops.toList st.m.blks.length ops.toList { st with m := reserve st.m (newCount ops.toList) }) := rfl
@[simp] theorem exOps_nil (ops : List Oper) (fresh : Nat) (st : St) : exOps P cfg rec ops fresh [] st = some (st, []) := rfl
@[simp] theorem exOps_cons (ops : List Oper) (fresh : Nat) (o : Oper) (rest : List Oper) (st : St) : exOps P cfg rec ops fresh (o :: rest) st = opsK P cfg rec ops (bif isNew o.op then fresh + 1 else fresh) rest (ex1 P cfg rec ops fresh o st) := by
  unfold opsK; rw [exOps]; rfl
@[simp] theorem opsK_some (ops : List Oper) (fresh : Nat) (rest : List Oper) (st : St) (a : Acc) : opsK P cfg rec ops fresh rest (some (st, a)) = consK a (exOps P cfg rec ops fresh rest st) := rfl
@[simp] theorem consK_some (a : Acc) (st : St) (as : List Acc) : consK a (some (st, as)) = some (st, a :: as) := rfl
@[simp] theorem ex1_eq (ops : List Oper) (fresh : Nat) (o : Oper) (st : St) : ex1 P cfg rec ops fresh o st = wantK P cfg rec fresh o st (wantedA ops st.s o) := rfl
@[simp] theorem wantK_true (fresh : Nat) (o : Oper) (st : St) : wantK P cfg rec fresh o st (some true) = reqK st o.dst (req P cfg rec (ev st.s) fresh o.op) := rfl
@[simp] theorem wantK_false (fresh : Nat) (o : Oper) (st : St) : wantK P cfg rec fresh o st (some false) = some ({ st with s := put st.s o.dst (.v undef) }, .none) := rfl
@[simp] theorem reqK_some (st : St) (d : Option Tmp) (r : Req) : reqK st d (some r) = putK st d (r.run st.m) := rfl
@[simp] theorem putK_some (st : St) (d : Option Tmp) (x : AV) (m' : AMem) (a : Acc) : putK st d (some (x, m', a)) = some ({ st with s := put st.s d x, m := m' }, a) := rfl
@[simp] theorem drawK_some (ops : Array Oper) (draw : Bool) (st : St) (as : List Acc) : drawK ops draw (some (st, as)) = bif !draw || as.all quietAcc || freeAll (Region.before ops) as then some st else none := rfl
@[simp] theorem run_val (x : AV) (m : AMem) : (Req.val x).run m = some (x, m, .none) := rfl
@[simp] theorem run_rd (id : Nat) (k : ABlk → Option AV) (m : AMem) : (Req.rd id k).run m = (m.blks[id]?).bind fun b => (k b).map fun x => (x, m, .rd id) := by
  show (match m.blks[id]? with | some b => (k b).map fun x => (x, m, Acc.rd id) | none => none) = _
  cases m.blks[id]? <;> rfl
@[simp] theorem run_wr (id : Nat) (k : ABlk → Option (ABlk × AV)) (m : AMem) : (Req.wr id k).run m = if m.ro ≤ id then (m.blks[id]?).bind fun b => (k b).map fun p => (p.2, { m with blks := m.blks.set id p.1 }, .wr id) else none := by
  show (if m.ro ≤ id then (match m.blks[id]? with | some b => (k b).map fun (b', x) => (x, { m with blks := m.blks.set id b' }, Acc.wr id) | none => none) else none) = _
  split
  · cases m.blks[id]? <;> rfl
  · rfl
@[simp] theorem run_tok (k : Nat → List Nat → Option (AV × Nat × List Nat)) (m : AMem) : (Req.tok k).run m = (k m.next m.live).map fun p => (p.1, { m with next := p.2.1, live := p.2.2 }, .tok) := rfl
@[simp] theorem run_all (k : AMem → Option AV) (m : AMem) : (Req.all k).run m = (k m).map fun x => (x, m, .all) := rfl
@[simp] theorem run_eff (k : AMem → Option (AV × AMem)) (m : AMem) : (Req.eff k).run m = (k m).map fun p => (p.1, p.2, .eff m p.2) := rfl

def wantV (want : Bool) : Option AV → Option Bool
  | some (.v (.bool b)) => some (b == want)
  | some (.v _) => some false
  | _ => none
@[simp] theorem wantV_bool (want b : Bool) : wantV want (some (.v (.bool b))) = some (b == want) := rfl
@[simp] theorem wantV_undef (want : Bool) : wantV want (some (.v undef)) = some false := rfl
def wantG (ops : List Oper) (s : List AV) : Option (Nat × Bool) → Option Bool
  | none => some true
  | some (j, want) => match (ops[j]?).bind (·.dst) with
    | some d => wantV want s[d]?
    | none => none
@[simp] theorem wantedA_eq (ops : List Oper) (s : List AV) (o : Oper) : wantedA ops s o = wantG ops s o.guard := by
  unfold wantedA wantG
  cases o.guard with
  | none => rfl
  | some g =>
    obtain ⟨j, want⟩ := g
    simp only
    cases (ops[j]?).bind (·.dst) with
    | none => rfl
    | some d =>
      simp only [wantV]
      rfl
attribute [simp] finish wantG req ev put AV.ofV absBin intBin absUn reserve newCount isNew setGone resultsA resultA oneOf List.replicate callOf
  callReq_pure callReq_meth callReq_keep AV.plain AV.cells Value.oneCell' spliceA buildReq buildSliceReq fillA setAll placesA fieldOf fieldAddrReq indexAddrReq partE partA storeIn
  sameOperand makeSliceReq buildVecReq isVec builtinReq lenA eqA quietAcc clrS

@[congr] theorem loopN_cong {mask : List Bool} {body : St → Option (AExit × St)} {n n' : Nat} {st st' : St} (h1 : n = n') (h2 : st = st') : loopN mask body n st = loopN mask body n' st' := by rw [h1, h2]
@[congr] theorem cond_cong {α : Type} {c c' : Bool} {a b : α} (h : c = c') : cond c a b = cond c' a b := by rw [h]

@[simp] theorem bne_of {a b : Int} (h : ¬ a = b) : (a != b) = true := by simp [h]
@[simp] theorem beq_of {a b : Int} (h : ¬ a = b) : (a == b) = false := by simp [h]

/-- A number that fits is left as it is. -/
@[simp] theorem wrap_fit {n : Int} (h1 : -9223372036854775808 ≤ n) (h2 : n ≤ 9223372036854775807) : IntKind.i64.wrap n = n := IntWalk.i64_in n ⟨h1, h2⟩

/-- Accesses with their blocks' numbers exchanged. -/
def Acc.ren (σ : Nat → Nat) : Acc → Acc
  | .rd i => .rd (σ i)
  | .wr i => .wr (σ i)
  | a => a

def Acc.below (n : Nat) : Acc → Bool
  | .rd i => decide (i < n)
  | .wr i => decide (i < n)
  | .eff _ _ => false
  | _ => true

theorem free_ren {σ : Nat → Nat} {n : Nat} (hσ : ∀ i j, i < n → j < n → σ i = σ j → i = j) {a b : Acc} (ha : a.below n = true) (hb : b.below n = true) (h : a.free b = true) : (a.ren σ).free (b.ren σ) = true := by
  cases a <;> cases b <;> simp_all [Acc.ren, Acc.free, Acc.below] <;> (intro he; exact h (hσ _ _ (by assumption) (by assumption) he))

theorem freeAll_ren {bef : Array Nat} {as : List Acc} (σ : Nat → Nat) (n : Nat) (hσ : ∀ i j, i < n → j < n → σ i = σ j → i = j) (hn : as.all (Acc.below n) = true) (h : freeAll bef as = true) : freeAll bef (as.map (Acc.ren σ)) = true := by
  unfold freeAll at h ⊢
  rw [List.zipIdx_map]
  simp only [List.all_map, List.all_eq_true, Function.comp] at h ⊢
  intro x hx y hy
  have := h x hx y hy
  simp only [Prod.map, id, Bool.or_eq_true] at this ⊢
  rcases this with h1 | h1
  · exact .inl h1
  · right
    have hb : ∀ z ∈ as.zipIdx, z.1.below n = true := by
      intro z hz
      obtain ⟨z1, z2⟩ := z
      have := List.mem_zipIdx hz
      exact List.all_eq_true.1 hn _ (by rw [this.2.2]; exact List.getElem_mem _)
    exact free_ren hσ (hb y hy) (hb x hx) h1

/-- The operations of a text's regions. -/
noncomputable def regionsOf : Code → List (Array Oper)
  | .region _ ops _ => [ops]
  | .seq a b => regionsOf a ++ regionsOf b
  | .cond _ a b => regionsOf a ++ regionsOf b
  | .block _ c => regionsOf c
  | .loop c => regionsOf c
  | .rangeFunc _ _ a b => regionsOf a ++ regionsOf b
  | _ => []
noncomputable def regionOf (f : Func) (i : Nat) : Array Oper := (regionsOf (codeOf f)).getD i #[]

/-- An append token that is not there any more is none. -/
def convCap (nx : Nat) : Cap → Cap
  | .no => .no
  | .tight => .tight
  | .tok t => if t < nx then .tok t else .no
@[simp] theorem convCap_no (nx : Nat) : convCap nx .no = .no := rfl
@[simp] theorem convCap_tight (nx : Nat) : convCap nx .tight = .tight := rfl

theorem convs_map (m : AMem) (n nx : Nat) (look : AV → AV) : ∀ cs : List AV, convs m n nx look cs = cs.map (conv1 m n nx look)
  | [] => rfl
  | x :: cs => by rw [convs, convs_map m n nx look cs]; rfl
section
variable {m : AMem} {n nx : Nat}
/-- Numbers that are added one by one are added. -/
@[simp] theorem add_11 (n : Nat) : n + 1 + 1 = n + 2 := rfl
@[simp] theorem add_12 (n : Nat) : n + 1 + 2 = n + 3 := rfl
@[simp] theorem add_21 (n : Nat) : n + 2 + 1 = n + 3 := rfl
@[simp] theorem add_22 (n : Nat) : n + 2 + 2 = n + 4 := rfl
@[simp] theorem add_31 (n : Nat) : n + 3 + 1 = n + 4 := rfl
@[simp] theorem add_13 (n : Nat) : n + 1 + 3 = n + 4 := rfl
@[simp] theorem add_41 (n : Nat) : n + 4 + 1 = n + 5 := rfl
@[simp] theorem add_32 (n : Nat) : n + 3 + 2 = n + 5 := rfl
@[simp] theorem add_51 (n : Nat) : n + 5 + 1 = n + 6 := rfl
@[simp] theorem add_14 (n : Nat) : n + 1 + 4 = n + 5 := rfl
@[simp] theorem add_15 (n : Nat) : n + 1 + 5 = n + 6 := rfl
@[simp] theorem add_23 (n : Nat) : n + 2 + 3 = n + 5 := rfl
@[simp] theorem add_24 (n : Nat) : n + 2 + 4 = n + 6 := rfl
@[simp] theorem add_33 (n : Nat) : n + 3 + 3 = n + 6 := rfl
@[simp] theorem add_42 (n : Nat) : n + 4 + 2 = n + 6 := rfl
@[simp] theorem add_61 (n : Nat) : n + 6 + 1 = n + 7 := rfl
@[simp] theorem conv_any : conv m n nx .any = .any := by simp [conv, convN, conv1]
@[simp] theorem conv_v {x : Value} : conv m n nx (.v x) = .v x := by simp [conv, convN, conv1]
@[simp] theorem conv_agg {cs : List AV} : conv m n nx (.agg cs) = .agg (cs.map (conv m n nx)) := by simp only [conv, convN, conv1, convs_map]
@[simp] theorem conv_tup {cs : List AV} : conv m n nx (.tup cs) = .tup (cs.map (conv m n nx)) := by simp only [conv, convN, conv1, convs_map]
@[simp] theorem conv_sl {sz : Nat} {es : List AV} {c : Cap} : conv m n nx (.sl sz es c) = .sl sz (es.map (conv m n nx)) (convCap nx c) := by cases c <;> simp only [conv, convN, conv1, convs_map, convCap]
@[simp] theorem conv_ref {id i off : Nat} : conv m n nx (.ref id i off) = if id < n then .ref id i off else .any := by simp only [conv, convN, conv1]
@[simp] theorem conv_eref {e : AV} : conv m n nx (.eref e) = .eref (conv m n nx e) := by simp only [conv, convN, conv1]
@[simp] theorem conv_fn {f : Fn} {a b : List AV} : conv m n nx (.fn f a b) = .fn f (a.map (conv m n nx)) (b.map (conv m n nx)) := by simp only [conv, convN, conv1, convs_map]
@[simp] theorem conv_ifc {t : TypeId} {x : AV} : conv m n nx (.ifc t x) = .ifc t (conv m n nx x) := by simp only [conv, convN, conv1]
@[simp] theorem conv_map {id : Nat} : conv m n nx (.map id) = if id < n then .map id else .any := by simp only [conv, convN, conv1]
@[simp] theorem conv_yld {id : Nat} : conv m n nx (.yld id) = if id < n then .yld id else .any := by simp only [conv, convN, conv1]
theorem conv_own_lt {z id off k : Nat} (h : id < n) : conv m n nx (.own z id off k) = .own z id off k := by simp only [conv, convN, conv1, if_pos h]
@[simp] theorem convBlk_arr {f : AV → AV} {es : List AV} {sz : Nat} : convBlk f (.arr es sz) = .arr (es.map f) sz := rfl
@[simp] theorem convBlk_vec {f : AV → AV} {es : List AV} {sz : Nat} : convBlk f (.vec es sz) = .vec (es.map f) sz := rfl
@[simp] theorem convBlk_loop {f : AV → AV} {l : ALoop} : convBlk f (.loop l) = .loop { l with tmps := l.tmps.map f } := rfl
@[simp] theorem convBlk_dfd {f : AV → AV} : convBlk f .dfd = .dfd := rfl
@[simp] theorem convBlk_gone {f : AV → AV} : convBlk f .gone = .gone := rfl
@[simp] theorem convBlk_free {f : AV → AV} : convBlk f .free = .free := rfl
end

@[simp] theorem shrink_at (A B : List ABlk) (nx : Nat) (lv : List Nat) (n : Nat) (h : A.length ≤ n) :
    (⟨A ++ B, nx, lv, A.length⟩ : AMem).shrink n = ⟨A ++ (B.take (n - A.length)).map (convBlk (conv ⟨A ++ B, nx, lv, A.length⟩ n nx)), nx, lv, A.length⟩ := by
  simp only [AMem.shrink, Nat.min_eq_left h]
  rw [List.take_left, List.take_append, List.take_of_length_le h, List.drop_left]
end
end Go.Den
