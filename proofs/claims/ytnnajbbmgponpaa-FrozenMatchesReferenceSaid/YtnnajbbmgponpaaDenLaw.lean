/-
  Arguments that read as data stand for abstract values; a law that the abstract interpreter finds true is true of the model's call, and nothing that was there has turned. Conditions: as each statement says.
-/
import Derived.Test.YtnnajbbmgponpaaDenCtl5
import Derived.Below
import Derived.ProofKit
import Derived.ChangeSame
import Derived.Carry
namespace Go.Den
open Go.RowKit

section
variable {P : Program} {w : World} {H : Type} {en : TypeId × Value → H}

/-- The shape that an abstract value of a type has: integers, bools, strings, slices and structs of such. -/
def Sh (P : Program) : Nat → TypeId → AV → Prop
  | 0, _, _ => False
  | f + 1, t, av =>
    match P.underlying t with
    | some .bool => ∃ b, av = .v (.bool b)
    | some (.int k) => ∃ n, av = .v (.int k n) ∧ (Lit.int k n).wf = true
    | some .string => ∃ s, av = .v (.string s) ∧ s.size ≤ maxLen
    | some (.slice e) => av = .v (.slice none 0 0) ∨ ∃ es, av = .sl (P.cellsOf e) es .no ∧ es.length ≤ maxLen ∧ ∀ x ∈ es, Sh P f e x
    | some (.struct fs) => ∃ xs : List AV, xs.length = fs.toList.length ∧ av = .agg (xs.flatMap AV.cells) ∧ ∀ p ∈ fs.toList.zip xs, Sh P f p.1.type p.2
    | _ => False

/-- The fields lie one behind the other, and fill the struct. -/
def laysAt (P : Program) (n : Nat) : Nat → List Field → Bool
  | off, [] => off == n
  | off, fd :: fs => fd.offset == off && laysAt P n (off + P.cellsOf fd.type) fs

/-- The types that are read here. -/
def plainType (P : Program) : Nat → TypeId → Bool
  | 0, _ => true
  | f + 1, t =>
    match P.underlying t with
    | some .bool | some (.int _) | some .string => true
    | some (.slice e) => decide (0 < P.cellsOf e) && plainType P f e
    | some (.struct fs) => laysAt P (P.cellsOf t) 0 fs.toList && fs.toList.all fun fd => plainType P f fd.type
    | _ => false

/-- Nothing is written yet: all that is there is never written. -/
def Cx.start (w : World) : Cx := { blk := fun _ => none, tok := fun _ => none, imm := fun b _ => b < w.heap.size }

def AMem.start : AMem := { blks := [], next := 0, live := [], ro := 0 }

theorem sim_start (w : World) : Sim (Cx.start w) w .start :=
  ⟨fun _ _ h => (by cases h), fun _ _ h => (by cases h), fun id b h => (by simp [AMem.start] at h), fun _ _ _ _ h => (by cases h), fun _ _ _ h => (by cases h), fun _ _ h => h, fun _ _ h => (by cases h), fun _ h => (by simp [AMem.start] at h), fun _ _ _ _ _ h => (by simp [AMem.start] at h), List.nodup_nil, Nat.le_refl _⟩

theorem val_of_cells {C : Cx} {a : AV} {cs : List Value} (hp : a.plain = true) (h : Reps C w a.cells cs) (ho : ∀ c ∈ cs, c.oneCell' = true) : ∃ v, Rep C w a v ∧ v.cells.toList = cs := by
  cases a with
  | agg xs => exact ⟨.agg cs.toArray, by simp only [Rep]; exact ⟨_, rfl, by simpa [AV.cells] using h, by simpa using ho⟩, by simp [Value.cells]⟩
  | any => simp [AV.plain] at hp
  | tup _ => simp [AV.plain] at hp
  | _ =>
    simp only [AV.cells, Reps] at h
    obtain ⟨y, ys, rfl, h1, rfl⟩ := h
    have hy := ho y (by simp)
    exact ⟨y, h1, by cases y <;> first | rfl | simp [Value.oneCell'] at hy⟩

theorem cells?_get {a : Addr} {n : Nat} {cs : List Value} (h : w.cells? 0 a n = some cs) : cs.length = n ∧ ∀ (j : Nat) (x : Value), cs[j]? = some x → w.cell? (a.add j) = some x := by
  unfold World.cells? at h
  rw [if_pos (Nat.zero_le _)] at h
  have key : ∀ (l : List Nat) (cs : List Value), l.mapM (fun i => w.cell? (a.add i)) = some cs → cs.length = l.length ∧ ∀ (j : Nat) (x : Value), cs[j]? = some x → ∃ i, l[j]? = some i ∧ w.cell? (a.add i) = some x := by
    intro l
    induction l with
    | nil => intro cs h; simp at h; subst h; simp
    | cons i l ih =>
      intro cs h
      simp only [List.mapM_cons, Option.bind_eq_bind, Option.bind_eq_some_iff, Option.pure_def, Option.some.injEq] at h
      obtain ⟨y, hy, ys, hys, rfl⟩ := h
      obtain ⟨h1, h2⟩ := ih ys hys
      refine ⟨by simp [h1], fun j x hx => ?_⟩
      cases j with
      | zero => simp at hx; subst hx; exact ⟨i, rfl, hy⟩
      | succ j => simp at hx; obtain ⟨i', h3, h4⟩ := h2 j x hx; exact ⟨i', by simpa using h3, h4⟩
  obtain ⟨h1, h2⟩ := key _ _ h
  refine ⟨by simpa using h1, fun j x hx => ?_⟩
  obtain ⟨i, h3, h4⟩ := h2 j x hx
  rw [List.getElem?_range] at h3
  · simp at h3; subst h3; exact h4
  · have := (List.getElem?_eq_some_iff.1 hx).1; simp at h1; omega

theorem mapM_get {α β : Type} {f : α → Option β} : ∀ {l : List α} {r : List β}, l.mapM f = some r → r.length = l.length ∧ ∀ (j : Nat) (y : β), r[j]? = some y → ∃ x, l[j]? = some x ∧ f x = some y
  | [], r, h => by simp at h; subst h; simp
  | a :: l, r, h => by
    simp only [List.mapM_cons, Option.bind_eq_bind, Option.bind_eq_some_iff, Option.pure_def, Option.some.injEq] at h
    obtain ⟨y, hy, ys, hys, rfl⟩ := h
    obtain ⟨h1, h2⟩ := mapM_get hys
    refine ⟨by simp [h1], fun j x hx => ?_⟩
    cases j with
    | zero => simp at hx; subst hx; exact ⟨a, rfl, hy⟩
    | succ j => simp at hx; obtain ⟨i', h3, h4⟩ := h2 j x hx; exact ⟨i', by simpa using h3, h4⟩

theorem trod_fields {r : TypeId → List Value → Option (DataW H × List MemPlace)} {n : Nat} {cs : List Value}
    (ih : ∀ (t : TypeId) (ds : List Value) (d : DataW H) (ps : List MemPlace), plainType P n t = true → r t ds = some (d, ps) → ∃ av, Sh P n t av ∧ av.plain = true ∧ Reps (Cx.start w) w av.cells ds ∧ ∀ c ∈ ds, c.oneCell' = true) :
    ∀ (fs : List Field) (off : Nat) (ds : List (DataW H × List MemPlace)), laysAt P cs.length off fs = true → (fs.all fun fd => plainType P n fd.type) = true →
    fs.mapM (fun f => r f.type ((cs.drop f.offset).take (P.cellsOf f.type))) = some ds →
    ∃ xs : List AV, xs.length = fs.length ∧ (∀ p ∈ fs.zip xs, Sh P n p.1.type p.2) ∧ Reps (Cx.start w) w (xs.flatMap AV.cells) (cs.drop off) ∧ ∀ c ∈ cs.drop off, c.oneCell' = true
  | [], off, ds, hl, _, _ => by
    simp only [laysAt, beq_iff_eq] at hl
    subst hl
    exact ⟨[], rfl, by simp, by simp [Reps], by simp⟩
  | fd :: fs, off, ds, hl, hp, h => by
    simp only [laysAt, Bool.and_eq_true, beq_iff_eq] at hl
    obtain ⟨ho, hl⟩ := hl
    simp only [List.all_cons, Bool.and_eq_true] at hp
    simp only [List.mapM_cons, Option.bind_eq_bind, Option.bind_eq_some_iff, Option.pure_def, Option.some.injEq] at h
    obtain ⟨⟨d, ps⟩, hy, ys, hys, rfl⟩ := h
    rw [ho] at hy
    obtain ⟨av, g1, g2, g3, g4⟩ := ih _ _ _ _ hp.1 hy
    obtain ⟨xs, k1, k2, k3, k4⟩ := trod_fields ih fs _ ys hl hp.2 hys
    have hsplit : cs.drop off = (cs.drop off).take (P.cellsOf fd.type) ++ cs.drop (off + P.cellsOf fd.type) := by
      rw [← List.drop_drop, List.take_append_drop]
    refine ⟨av :: xs, by simp [k1], ?_, ?_, ?_⟩
    · intro p hp
      simp only [List.zip_cons_cons, List.mem_cons] at hp
      rcases hp with rfl | hp
      · exact g1
      · exact k2 p hp
    · rw [hsplit, List.flatMap_cons]
      exact g3.append k3
    · rw [hsplit]
      intro c hc
      rcases List.mem_append.1 hc with hc | hc
      · exact g4 c hc
      · exact k4 c hc

theorem Sh.mono : ∀ {n : Nat} {t : TypeId} {av : AV}, Sh P n t av → Sh P (n + 1) t av
  | 0, _, _, h => by simp [Sh] at h
  | n + 1, t, av, h => by
    rw [Sh] at h ⊢
    split at h <;> rename_i hu <;> (try exact h)
    · rcases h with h | ⟨es, h1, h2, h3⟩
      · exact .inl h
      · exact .inr ⟨es, h1, h2, fun x hx => (h3 x hx).mono⟩
    · obtain ⟨xs, h1, h2, h3⟩ := h
      exact ⟨xs, h1, h2, fun p hp => (h3 p hp).mono⟩

theorem trod_sh : ∀ (fuel n : Nat) (t : TypeId) (cs : List Value) (d : DataW H) (ps : List MemPlace), plainType P n t = true → fuel ≤ n → DataW.trod en P w 0 (fun _ => true) true fuel t cs = some (d, ps) →
    ∃ av, Sh P n t av ∧ av.plain = true ∧ Reps (Cx.start w) w av.cells cs ∧ ∀ c ∈ cs, c.oneCell' = true
  | 0, _, _, _, _, _, _, _, h => by simp [DataW.trod] at h
  | fuel + 1, n, t, cs, d, ps, hp, hn, h => by
    match n, hn, hp with
    | n + 1, hn, hp =>
    simp only [DataW.trod] at h
    simp only [plainType] at hp
    split at h <;> rename_i hu <;> (try (rw [hu] at hp; simp at hp; done))
    · rename_i b; exact ⟨.v (.bool b), by simp [Sh, hu], rfl, by simp [AV.cells, Reps, Rep], by simp [Value.oneCell']⟩
    · rename_i k k' m
      split at h
      · rename_i hk
        obtain ⟨rfl, hw⟩ := hk
        exact ⟨.v (.int k' m), by simp [Sh, hu, hw], rfl, by simp [AV.cells, Reps, Rep], by simp [Value.oneCell']⟩
      · cases h
    · rename_i s
      split at h
      · rename_i hs
        exact ⟨.v (.string s), by simp [Sh, hu, hs], rfl, by simp [AV.cells, Reps, Rep], by simp [Value.oneCell']⟩
      · cases h
    · exact ⟨.v (.slice none 0 0), by simp [Sh, hu], rfl, by simp [AV.cells, Reps, Rep], by simp [Value.oneCell']⟩
    · rename_i e a len cap
      rw [hu] at hp
      simp only [Bool.and_eq_true, decide_eq_true_eq] at hp
      obtain ⟨hsz, hpe⟩ := hp
      split at h
      · rename_i hc
        rw [Option.bind_eq_some_iff] at h
        obtain ⟨elems, he, h⟩ := h
        obtain ⟨hl, hg⟩ := mapM_get he
        have hcells : ∀ i, i < len → ∃ ccs d ps, ccs.length = P.cellsOf e ∧ (∀ (j : Nat) (x : Value), ccs[j]? = some x → w.cell? ((a.add (i * P.cellsOf e)).add j) = some x) ∧ DataW.trod en P w 0 (fun _ => true) true fuel e ccs = some (d, ps) := by
          intro i hi
          obtain ⟨x, hx1, hx2⟩ := hg i (elems[i]'(by simp at hl; omega)) (List.getElem?_eq_getElem _)
          rw [List.getElem?_range hi] at hx1
          cases hx1
          rw [Option.bind_eq_some_iff] at hx2
          obtain ⟨ccs, hcc, htr⟩ := hx2
          obtain ⟨hcl, hcg⟩ := cells?_get hcc
          exact ⟨ccs, _, _, hcl, hcg, htr⟩
        have hspot : a.spot = none ∨ len = 0 := by
          by_cases hz : len = 0
          · exact .inr hz
          · left
            obtain ⟨ccs, d, ps, hcl, hcg, _⟩ := hcells 0 (by omega)
            have h0 := hcg 0 (ccs[0]'(by omega)) (List.getElem?_eq_getElem _)
            have ha : (a.add (0 * P.cellsOf e)).add 0 = a := by simp [Addr.add]
            rw [ha] at h0
            cases hs : a.spot with
            | none => rfl
            | some s =>
              exfalso
              simp only [World.cell?, hs] at h0
              split at h0 <;> simp at h0
        have helem : ∀ i, i < len → ∃ av v, Sh P n e av ∧ Rep (Cx.start w) w av v ∧ v.cells.size = P.cellsOf e ∧ Stored ((Cx.start w).imm a.block) w a.block (a.off + i * P.cellsOf e) v.cells.toList := by
          intro i hi
          obtain ⟨ccs, d, ps, hcl, hcg, htr⟩ := hcells i hi
          obtain ⟨av, g1, g2, g3, g4⟩ := trod_sh fuel n e ccs _ _ hpe (by omega) htr
          obtain ⟨v, k1, k2⟩ := val_of_cells g2 g3 g4
          have hs : a.spot = none := by rcases hspot with h | h; exact h; omega
          refine ⟨av, v, g1, k1, by rw [← hcl, ← k2]; simp, fun j z hz => ?_⟩
          rw [k2] at hz
          have hcell := hcg j z hz
          rw [addr_eta hs, add_none, add_none] at hcell
          exact ⟨show a.block < w.heap.size from block_lt_of_cell (a := ⟨a.block, _, none⟩) hcell, hcell, g4 z (List.mem_of_getElem? hz)⟩
        have hlist : ∀ k, k ≤ len → ∃ es : List AV, es.length = k ∧ (∀ x ∈ es, Sh P n e x) ∧ Elems (Cx.start w) w a.block ((Cx.start w).imm a.block) (P.cellsOf e) a.off es := by
          intro k
          induction k with
          | zero => intro _; exact ⟨[], rfl, by simp, by simp [Elems]⟩
          | succ k ih =>
            intro hk
            obtain ⟨es, i1, i2, i3⟩ := ih (by omega)
            obtain ⟨av, v, g1, g2, g3, g4⟩ := helem k (by omega)
            refine ⟨es ++ [av], by simp [i1], fun x hx => ?_, Elems.append i3 ?_⟩
            · rcases List.mem_append.1 hx with hx | hx
              · exact i2 x hx
              · simp at hx; subst hx; exact g1
            · simp only [Elems]
              exact ⟨⟨v, g2, g3, by rw [i1]; exact g4⟩, trivial⟩
        obtain ⟨es, i1, i2, i3⟩ := hlist len (Nat.le_refl _)
        refine ⟨.sl (P.cellsOf e) es .no, ?_, rfl, ?_, by simp [Value.oneCell']⟩
        · simp only [Sh, hu]
          exact .inr ⟨es, rfl, by omega, i2⟩
        · simp only [AV.cells, Reps]
          refine ⟨_, [], rfl, ?_, rfl⟩
          simp only [Rep]
          refine ⟨a, cap, by rw [i1], by omega, ?_, i3, trivial⟩
          rcases hspot with h | h
          · exact .inl h
          · exact .inr (List.eq_nil_of_length_eq_zero (by omega))
      · cases h
    · rename_i fs
      rw [hu] at hp
      simp only [Bool.and_eq_true] at hp
      split at h
      · rename_i hlen
        rw [Option.map_eq_some_iff] at h
        obtain ⟨ds, hds, _⟩ := h
        obtain ⟨xs, g1, g2, g3, g4⟩ := trod_fields (w := w) (fun t cs d ps hpt ht => trod_sh fuel n t cs d ps hpt (by omega) ht) fs.toList 0 ds (by rw [hlen]; exact hp.1) hp.2 hds
        refine ⟨.agg (xs.flatMap AV.cells), ?_, rfl, ?_, by simpa using g4⟩
        · simp only [Sh, hu]
          exact ⟨xs, g1, rfl, g2⟩
        · simpa [AV.cells] using g3
      · cases h
    all_goals first | (cases h; done) | skip

end

/-- What the abstract interpreter finds true is true of the call, and nothing that was there has turned. -/
theorem law_calls {P : Program} {cfg : FuncId → FCfg} {n : Nat} {f : FuncId} {args : List AV} {m' : AMem} {w : World} {vs : Array Value} (hP : progOk P = true) (hp : PrimOk P cfg)
    (hd : den P cfg n (.call f args) .start = some (.v (.bool true), m')) (hr : Reps (Cx.start w) w args vs.toList) :
    Calls P f vs w fun e w' => e = .returned (.bool true) ∧ Below w.heap.size w w' := by
  refine (callsIn_wide (n := 0)).1 ((den_ok hP hp n).call _ _ _ _ _ hd _ _ _ (sim_start w) hr 0) |>.mono fun e w' ⟨v, C', he, hp, hv⟩ => ?_
  simp only [Rep] at hv
  subst hv
  refine ⟨he, hp.os, hp.tape, hp.output, hp.ext.heap, fun b hb => hp.frame b hb ?_⟩
  rintro (⟨id, bi, h, _⟩ | ⟨t, fo, h, _⟩)
  · cases h
  · simp [AMem.start] at h

theorem sh_agg {P : Program} {n : Nat} {t : TypeId} {xs : List AV} (h : Sh P n t (.agg xs)) : ∃ fs, P.underlying t = some (.struct fs) := by
  cases n with
  | zero => simp [Sh] at h
  | succ n =>
    rw [Sh] at h
    split at h
    · obtain ⟨b, h⟩ := h; cases h
    · obtain ⟨b, h, _⟩ := h; cases h
    · obtain ⟨b, h, _⟩ := h; cases h
    · rcases h with h | ⟨b, h, _⟩ <;> cases h
    · rename_i fs hu; exact ⟨fs, hu⟩
    · exact h.elim

/-- An argument that reads as data stands for an abstract value of its type's shape. -/
theorem open_sh {H : Type} {en : TypeId × Value → H} {P : Program} {w : World} {base : Nat} {t : TypeId} {v : Value} {d : DataW H} {ps : List MemPlace} (hp : ∀ n, plainType P n t = true)
    (hval : Value.okWide P w .any base t v) (h : DataW.Trod en P w 0 (fun _ => true) true t v d ps) : ∃ n av, Sh P n t av ∧ Rep (Cx.start w) w av v := by
  obtain ⟨fuel, hf⟩ := h
  obtain ⟨av, h1, h2, h3, h4⟩ := trod_sh fuel fuel t _ d ps (hp fuel) (Nat.le_refl _) hf
  refine ⟨fuel, av, h1, ?_⟩
  obtain ⟨v', k1, k2⟩ := val_of_cells h2 h3 h4
  have hv : v' = v := by
    have key : ∀ xs, v = .agg xs → ∃ ys, v' = .agg ys := by
      intro xs hx
      subst hx
      have hs : ∃ fs, P.underlying t = some (.struct fs) := by
        cases fuel with
        | zero => simp [Sh] at h1
        | succ n =>
          rw [Sh] at h1
          unfold Value.okWide at hval
          split at h1 <;> rename_i hu <;> (try (rw [hu] at hval; simp [Cell.okWide, hu, Cell.ok] at hval; done)) <;> (try (exact h1.elim))
          exact ⟨_, hu⟩
      obtain ⟨fs, hs⟩ := hs
      have : ∃ ys, av = .agg ys := by
        cases fuel with
        | zero => simp [Sh] at h1
        | succ n =>
          rw [Sh, hs] at h1
          obtain ⟨xs, _, h, _⟩ := h1
          exact ⟨_, h⟩
      obtain ⟨ys, rfl⟩ := this
      simp only [Rep] at k1
      obtain ⟨zs, rfl, _⟩ := k1
      exact ⟨zs, rfl⟩
    have key2 : ∀ ys, v' = .agg ys → ∃ xs, v = .agg xs := by
      intro ys hy
      subst hy
      have : ∃ ys, av = .agg ys := by
        cases av with
        | agg xs => exact ⟨xs, rfl⟩
        | any => simp [AV.plain] at h2
        | v x =>
          simp only [Rep] at k1
          subst k1
          exfalso
          cases fuel with
          | zero => simp [Sh] at h1
          | succ n =>
            rw [Sh] at h1
            split at h1
            · obtain ⟨b, h⟩ := h1; cases h
            · obtain ⟨b, h, _⟩ := h1; cases h
            · obtain ⟨b, h, _⟩ := h1; cases h
            · rcases h1 with h | ⟨b, h, _⟩ <;> cases h
            · obtain ⟨xs, _, h, _⟩ := h1; cases h
            · exact h1
        | _ => simp only [Rep] at k1; (first | (obtain ⟨_, _, h, _⟩ := k1; cases h; done) | (obtain ⟨_, h, _⟩ := k1; cases h; done) | (obtain ⟨_, _, _, h⟩ := k1; cases h; done) | (obtain ⟨_, _, h⟩ := k1; cases h; done) | (obtain ⟨_, _, _, h, _⟩ := k1; cases h; done) | (obtain ⟨_, _, _, h, _⟩ := k1; cases h; done))
      obtain ⟨xs, rfl⟩ := this
      obtain ⟨fs, hu⟩ := sh_agg h1
      unfold Value.okWide at hval
      rw [hu] at hval
      obtain ⟨cs, rfl, _⟩ := hval
      exact ⟨cs, rfl⟩
    by_cases ha : ∃ xs, v = .agg xs
    · obtain ⟨xs, rfl⟩ := ha
      obtain ⟨ys, rfl⟩ := key _ rfl
      simp only [Value.cells] at k2
      rw [Array.toList_inj.1 k2]
    · have ha' : ¬ ∃ xs, v' = .agg xs := fun ⟨ys, hy⟩ => ha (key2 ys hy)
      have e1 : v.cells.toList = [v] := by cases v <;> first | rfl | exact absurd ⟨_, rfl⟩ ha
      have e2 : v'.cells.toList = [v'] := by cases v' <;> first | rfl | exact absurd ⟨_, rfl⟩ ha'
      rw [e1, e2] at k2
      simpa using k2
  exact hv ▸ k1

/-- What a law's row asks behind the call, where nothing that was there has turned. -/
theorem post_of_below {H : Type} {enc : TypeId × Value → H} {P : Program} {f : Func} {s : ChangeSpec} {apart fresh handsOn again : Bool} {W W' : World} {args : Array Value} {v : Value} {ds gs : List (DataW H)} {before pa pv : List MemPlace}
    (hW : DataW.Whole enc P f.params.toList s.vars apart W args.toList ds gs before)
    (hres : ∀ (b : Nat) (sp : Nat → Bool) (hd : Bool), DataW.TrodAll enc P W' b sp hd f.resultTypes.toList (v.resultList f.resultTypes.size) (s.fn H (ds ++ gs)).results [])
    (hargs : ∀ sp : Nat → Bool, (∀ p ∈ before, sp p.block = true) → DataW.TrodAll enc P W' 0 sp true f.params.toList args.toList (s.fn H (ds ++ gs)).args pa)
    (hvars : ∀ sp : Nat → Bool, (∀ p ∈ before, sp p.block = true) → DataW.TrodVars enc P W' sp s.vars (s.fn H (ds ++ gs)).vars pv)
    (hps : before = pa ++ pv) (hb : Below W.heap.size W W')
    (hok : ∀ (j : Nat) (t : TypeId) (r : Value), f.resultTypes[j]? = some t → (v.resultList f.resultTypes.size)[j]? = some r → Value.okWide P W' .any 0 t r) :
    s.post enc P f apart fresh handsOn again W args v W' := by
  have hlt : ∀ p ∈ before, p.block < W.heap.size := fun p hp => hW.lt p hp
  have hold : ∀ p ∈ before, (fun b => decide (b < W.heap.size)) p.block = true := fun p hp => by simpa using hW.lt p hp
  refine ⟨ds, gs, before, [], pa, pv, hW, hres _ _ _, hargs _ hold, hvars _ hold, World.keptBut_mono (fun p hp => ⟨hp, ?_⟩) (hb.frame (· ∈ before)), fun _ => ?_⟩
  · rw [hps, List.mem_append] at hp
    exact Or.inr hp
  · obtain ⟨_, _, _, _, _, hz, hn⟩ := hW
    refine ⟨hok, _, _, ([] ++ pa) ++ pv, ⟨[] ++ pa, pv, ChangeShapes.trodAll_append (hargs _ (fun _ _ => rfl)) (hres _ _ _), hvars _ (fun _ _ => rfl), rfl, ?_, ?_⟩, ?_⟩
    · intro b off hp
      have hp' : MemPlace.cell b off ∈ before := by rw [hps]; simpa using hp
      rw [hb.frozen (p := ⟨b, off, none⟩) (hlt _ hp')]
      exact hz b off hp'
    · intro ha
      have := hn ha
      rw [hps] at this
      simpa using this
    · intro p hp _
      rw [hps]
      simpa using hp
end Go.Den
