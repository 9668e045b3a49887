/-
  The law of days: its loop. Conditions: as each statement says.
-/
import Derived.Test.YtnnajbbmgponpaaDenF12
namespace Go.Den
open Go.Proofs
set_option linter.unusedSimpArgs false
set_option linter.unusedVariables false

abbrev Stp : Type := Int × Int × Int × Bool
def stpv (x : Stp) : AV := stp x.1 x.2.1 x.2.2.1 x.2.2.2
/-- An account's state. -/
structure AS where
  L : List (Int × Int)
  c : Cap
  nx : Nat
  lv : List Nat
def AS.err (s : AS) (x : Stp) : Int := doE s.L false x.1 x.2.1 x.2.2.1 x.2.2.2
def AS.step (s : AS) (x : Stp) : AS := ⟨doL s.L false x.1 x.2.1 x.2.2.1 x.2.2.2, doC s.L s.c false x.1 x.2.1 x.2.2.1 x.2.2.2 s.nx, doN s.L false x.1 x.2.1 x.2.2.1 x.2.2.2 s.nx, doV s.L s.c false x.1 x.2.1 x.2.2.1 x.2.2.2 s.nx s.lv⟩
def AS.mem (r v : Int) (s : AS) : AMem := ⟨[acc r v s.L s.c false], s.nx, s.lv, 0⟩
def AS.Ok (n : Nat) (s : AS) : Prop := s.L ≠ [] ∧ s.L.length ≤ n ∧ AppOk s.nx s.lv s.c
theorem AS.Ok.step {n : Nat} {s : AS} (h : s.Ok n) (x : Stp) : (s.step x).Ok (n + 1) :=
  ⟨do_ne h.1 _ _ _ _ _, Nat.le_trans (do_len _ _ _ _ _ _) (Nat.succ_le_succ h.2.1), do_cap h.2.2 _ _ _ _ _ _⟩
theorem AS.call (k : Nat) (r v : Int) (s : AS) (x : Stp) {n : Nat} (h : s.Ok n) (hn : n ≤ 100) (hk : 100 < k) :
    mcall (den Try.prog cfg0 (k+9)) 11 [.ref 0 0 0, stpv x] (s.mem r v) = some (I (s.err x), (s.step x).mem r v) := by
  obtain ⟨h1, h2, h3⟩ := h
  have := m11 0 (s.mem r v) k r v x.1 x.2.1 x.2.2.1 s.L s.c false x.2.2.2 (by intro b hb; simp [AS.mem] at hb; subst hb; exact still_acc h3) h3 (Nat.le_refl _) (by simp [AS.mem]) rfl (by omega) (by omega) h1
  simpa [AS.mem, AS.step, AS.err, stpv] using this

theorem loop3 (r v : Int) (S : List Stp) (c0 : Cap) (k : Nat) (hS : S.length ≤ 12) (hk : 100 < k) : ∀ (R : List Stp) (n i j : Nat) (s : AS) (w50 w51 w52 w53 w54 w55 w56 w57 w58 w59 w60 w61 : AV), s.Ok j → j + R.length ≤ 100 → R.length < n → S.drop i = R →
    ∃ y18 y50 y51 y52 y53 y54 y55 y56 y57 y58 y59 y60 y61 : AV, ∀ x0 x1 x2 x3 x5 x6 x7 x8 x9 x10 x11 x12 x13 x14 x15 x17 x19 x20 x21 x22 x23 x24 x25 x26 x27 x28 x29 x30 x31 x32 x33 x34 x35 x36 x37 x38 x39 x40 x41 x42 x43 x44 x45 x46 x47 x48 x49 x62 x63 x64 x65 x66 x67 x68 x69 x70 x71 x72 x73 x74 x75 x76 x77 x78 x79 x80 x81 x82 x83 x84 x85 x86 x87 x88 x89 x90 x91 x92 x93 x94 x95 x96 x97 x98 x99 x100 x101 x102 x103 x104 x105 x106 x107 x108 x109 x110 x111 x112 x113 x114 x115 x116 : AV, loopN [] (exec Try.prog cfg0 (den Try.prog cfg0 (k+9)) (k+9) 3 none [] (loopOf Try.f3 0)) n
        ⟨[x0, x1, x2, x3, .sl 4 (S.map stpv) c0, x5, x6, x7, x8, x9, x10, x11, x12, x13, x14, x15, .ref 0 0 0, x17, I i, x19, x20, x21, x22, x23, x24, x25, x26, x27, x28, x29, x30, x31, x32, x33, x34, x35, x36, x37, x38, x39, x40, x41, x42, x43, x44, x45, x46, x47, x48, x49, w50, w51, w52, w53, w54, w55, w56, w57, w58, w59, w60, w61, x62, x63, x64, x65, x66, x67, x68, x69, x70, x71, x72, x73, x74, x75, x76, x77, x78, x79, x80, x81, x82, x83, x84, x85, x86, x87, x88, x89, x90, x91, x92, x93, x94, x95, x96, x97, x98, x99, x100, x101, x102, x103, x104, x105, x106, x107, x108, x109, x110, x111, x112, x113, x114, x115, x116], s.mem r v, []⟩ = some (.exit 0, ⟨[x0, x1, x2, x3, .sl 4 (S.map stpv) c0, x5, x6, x7, x8, x9, x10, x11, x12, x13, x14, x15, .ref 0 0 0, x17, y18, x19, x20, x21, x22, x23, x24, x25, x26, x27, x28, x29, x30, x31, x32, x33, x34, x35, x36, x37, x38, x39, x40, x41, x42, x43, x44, x45, x46, x47, x48, x49, y50, y51, y52, y53, y54, y55, y56, y57, y58, y59, y60, y61, x62, x63, x64, x65, x66, x67, x68, x69, x70, x71, x72, x73, x74, x75, x76, x77, x78, x79, x80, x81, x82, x83, x84, x85, x86, x87, x88, x89, x90, x91, x92, x93, x94, x95, x96, x97, x98, x99, x100, x101, x102, x103, x104, x105, x106, x107, x108, x109, x110, x111, x112, x113, x114, x115, x116], (R.foldl AS.step s).mem r v, []⟩) := by
  intro R
  induction R with
  | nil =>
    intro n i j s w50 w51 w52 w53 w54 w55 w56 w57 w58 w59 w60 w61 hok hj hn hR
    obtain ⟨n, rfl⟩ : ∃ n', n = n' + 1 := ⟨n - 1, by omega⟩
    have hi : ¬ ((i : Int) < S.length) := by
      have := congrArg List.length hR
      simp at this
      omega
    refine ⟨I i, I i, .sl 4 (S.map stpv) c0, I S.length, B false, w54, w55, w56, w57, w58, w59, w60, w61, ?_⟩
    intro x0 x1 x2 x3 x5 x6 x7 x8 x9 x10 x11 x12 x13 x14 x15 x17 x19 x20 x21 x22 x23 x24 x25 x26 x27 x28 x29 x30 x31 x32 x33 x34 x35 x36 x37 x38 x39 x40 x41 x42 x43 x44 x45 x46 x47 x48 x49 x62 x63 x64 x65 x66 x67 x68 x69 x70 x71 x72 x73 x74 x75 x76 x77 x78 x79 x80 x81 x82 x83 x84 x85 x86 x87 x88 x89 x90 x91 x92 x93 x94 x95 x96 x97 x98 x99 x100 x101 x102 x103 x104 x105 x106 x107 x108 x109 x110 x111 x112 x113 x114 x115 x116
    simp -implicitDefEqProofs [loopOf, loopsOf, codeOf, Try.f3, hi, AS.mem]
  | cons p R ih =>
    intro n i j s w50 w51 w52 w53 w54 w55 w56 w57 w58 w59 w60 w61 hok hj hn hR
    obtain ⟨n, rfl⟩ : ∃ n', n = n' + 1 := ⟨n - 1, by simp at hn; omega⟩
    have hi : i < S.length := by
      have := congrArg List.length hR
      simp at this
      omega
    have hi' : (i : Int) < S.length := by omega
    have hp : S[i]? = some p := by
      have := congrArg (fun l => l[0]?) hR
      simpa using this
    have hc := AS.call k r v s p hok (by omega) hk
    have hw : IntKind.i64.wrap ((i : Int) + 1) = ((i + 1 : Nat) : Int) := by rw [wrap_fit (by omega) (by omega)]; rfl
    obtain ⟨y18, y50, y51, y52, y53, y54, y55, y56, y57, y58, y59, y60, y61, hy⟩ := ih n (i + 1) (j + 1) (s.step p) (I i) (.sl 4 (S.map stpv) c0) (I S.length) (B true) (I i) (I (i + 1)) (.ref 0 0 0) (.sl 4 (S.map stpv) c0) (I i) (.eref (stpv p)) (stpv p) (I (s.err p)) (hok.step p) (by simp at hj; omega) (by simp at hn; omega) (by rw [← List.drop_drop, hR]; rfl)
    refine ⟨y18, y50, y51, y52, y53, y54, y55, y56, y57, y58, y59, y60, y61, ?_⟩
    intro x0 x1 x2 x3 x5 x6 x7 x8 x9 x10 x11 x12 x13 x14 x15 x17 x19 x20 x21 x22 x23 x24 x25 x26 x27 x28 x29 x30 x31 x32 x33 x34 x35 x36 x37 x38 x39 x40 x41 x42 x43 x44 x45 x46 x47 x48 x49 x62 x63 x64 x65 x66 x67 x68 x69 x70 x71 x72 x73 x74 x75 x76 x77 x78 x79 x80 x81 x82 x83 x84 x85 x86 x87 x88 x89 x90 x91 x92 x93 x94 x95 x96 x97 x98 x99 x100 x101 x102 x103 x104 x105 x106 x107 x108 x109 x110 x111 x112 x113 x114 x115 x116
    have hy' := hy x0 x1 x2 x3 x5 x6 x7 x8 x9 x10 x11 x12 x13 x14 x15 x17 x19 x20 x21 x22 x23 x24 x25 x26 x27 x28 x29 x30 x31 x32 x33 x34 x35 x36 x37 x38 x39 x40 x41 x42 x43 x44 x45 x46 x47 x48 x49 x62 x63 x64 x65 x66 x67 x68 x69 x70 x71 x72 x73 x74 x75 x76 x77 x78 x79 x80 x81 x82 x83 x84 x85 x86 x87 x88 x89 x90 x91 x92 x93 x94 x95 x96 x97 x98 x99 x100 x101 x102 x103 x104 x105 x106 x107 x108 x109 x110 x111 x112 x113 x114 x115 x116
    simp only [List.foldl_cons]
    rw [← hy']
    simp only [stpv, stp, AS.mem] at hc
    rw [loopN_succ]
    simp -implicitDefEqProofs [loopOf, loopsOf, codeOf, Try.f3, hi', hp, hc, stpv, stp, hw, AS.mem]

abbrev nilS : AV := .v (.slice none 0 0)
/-- A list of steps, as a slice. -/
def StpL (a : AV) (S : List Stp) : Prop := (a = nilS ∧ S = []) ∨ ∃ c, a = .sl 4 (S.map stpv) c
theorem StpL.len {a : AV} {S : List Stp} (h : StpL a S) : lenA Try.prog 22 a = some (.val (I S.length)) := by
  rcases h with ⟨rfl, rfl⟩ | ⟨c, rfl⟩ <;> simp

theorem loop3a (r v : Int) (S : List Stp) (a : AV) (ha : StpL a S) (k : Nat) (hS : S.length ≤ 12) (hk : 100 < k) (s : AS) (hok : s.Ok 1) :
    ∃ y18 y50 y51 y52 y53 y54 y55 y56 y57 y58 y59 y60 y61 : AV, ∀ x0 x1 x2 x3 x5 x6 x7 x8 x9 x10 x11 x12 x13 x14 x15 x17 x19 x20 x21 x22 x23 x24 x25 x26 x27 x28 x29 x30 x31 x32 x33 x34 x35 x36 x37 x38 x39 x40 x41 x42 x43 x44 x45 x46 x47 x48 x49 x62 x63 x64 x65 x66 x67 x68 x69 x70 x71 x72 x73 x74 x75 x76 x77 x78 x79 x80 x81 x82 x83 x84 x85 x86 x87 x88 x89 x90 x91 x92 x93 x94 x95 x96 x97 x98 x99 x100 x101 x102 x103 x104 x105 x106 x107 x108 x109 x110 x111 x112 x113 x114 x115 x116 : AV, loopN [] (exec Try.prog cfg0 (den Try.prog cfg0 (k+10)) (k+10) 3 none [] (loopOf Try.f3 0)) (k+10)
        ⟨[x0, x1, x2, x3, a, x5, x6, x7, x8, x9, x10, x11, x12, x13, x14, x15, .ref 0 0 0, x17, I 0, x19, x20, x21, x22, x23, x24, x25, x26, x27, x28, x29, x30, x31, x32, x33, x34, x35, x36, x37, x38, x39, x40, x41, x42, x43, x44, x45, x46, x47, x48, x49, .v undef, .v undef, .v undef, .v undef, .v undef, .v undef, .v undef, .v undef, .v undef, .v undef, .v undef, .v undef, x62, x63, x64, x65, x66, x67, x68, x69, x70, x71, x72, x73, x74, x75, x76, x77, x78, x79, x80, x81, x82, x83, x84, x85, x86, x87, x88, x89, x90, x91, x92, x93, x94, x95, x96, x97, x98, x99, x100, x101, x102, x103, x104, x105, x106, x107, x108, x109, x110, x111, x112, x113, x114, x115, x116], s.mem r v, []⟩ = some (.exit 0, ⟨[x0, x1, x2, x3, a, x5, x6, x7, x8, x9, x10, x11, x12, x13, x14, x15, .ref 0 0 0, x17, y18, x19, x20, x21, x22, x23, x24, x25, x26, x27, x28, x29, x30, x31, x32, x33, x34, x35, x36, x37, x38, x39, x40, x41, x42, x43, x44, x45, x46, x47, x48, x49, y50, y51, y52, y53, y54, y55, y56, y57, y58, y59, y60, y61, x62, x63, x64, x65, x66, x67, x68, x69, x70, x71, x72, x73, x74, x75, x76, x77, x78, x79, x80, x81, x82, x83, x84, x85, x86, x87, x88, x89, x90, x91, x92, x93, x94, x95, x96, x97, x98, x99, x100, x101, x102, x103, x104, x105, x106, x107, x108, x109, x110, x111, x112, x113, x114, x115, x116], (S.foldl AS.step s).mem r v, []⟩) := by
  rcases ha with ⟨rfl, rfl⟩ | ⟨c, rfl⟩
  · refine ⟨I 0, I 0, nilS, I 0, B false, .v undef, .v undef, .v undef, .v undef, .v undef, .v undef, .v undef, .v undef, ?_⟩
    intro x0 x1 x2 x3 x5 x6 x7 x8 x9 x10 x11 x12 x13 x14 x15 x17 x19 x20 x21 x22 x23 x24 x25 x26 x27 x28 x29 x30 x31 x32 x33 x34 x35 x36 x37 x38 x39 x40 x41 x42 x43 x44 x45 x46 x47 x48 x49 x62 x63 x64 x65 x66 x67 x68 x69 x70 x71 x72 x73 x74 x75 x76 x77 x78 x79 x80 x81 x82 x83 x84 x85 x86 x87 x88 x89 x90 x91 x92 x93 x94 x95 x96 x97 x98 x99 x100 x101 x102 x103 x104 x105 x106 x107 x108 x109 x110 x111 x112 x113 x114 x115 x116
    rw [loopN_succ]
    simp -implicitDefEqProofs [loopOf, loopsOf, codeOf, Try.f3, AS.mem]
  · obtain ⟨y18, y50, y51, y52, y53, y54, y55, y56, y57, y58, y59, y60, y61, h⟩ := loop3 r v S c (k + 1) hS (by omega) S (k + 10) 0 1 s (.v undef) (.v undef) (.v undef) (.v undef) (.v undef) (.v undef) (.v undef) (.v undef) (.v undef) (.v undef) (.v undef) (.v undef) hok (by omega) (by omega) rfl
    exact ⟨y18, y50, y51, y52, y53, y54, y55, y56, y57, y58, y59, y60, y61, fun x0 x1 x2 x3 x5 x6 x7 x8 x9 x10 x11 x12 x13 x14 x15 x17 x19 x20 x21 x22 x23 x24 x25 x26 x27 x28 x29 x30 x31 x32 x33 x34 x35 x36 x37 x38 x39 x40 x41 x42 x43 x44 x45 x46 x47 x48 x49 x62 x63 x64 x65 x66 x67 x68 x69 x70 x71 x72 x73 x74 x75 x76 x77 x78 x79 x80 x81 x82 x83 x84 x85 x86 x87 x88 x89 x90 x91 x92 x93 x94 x95 x96 x97 x98 x99 x100 x101 x102 x103 x104 x105 x106 x107 x108 x109 x110 x111 x112 x113 x114 x115 x116 => h x0 x1 x2 x3 x5 x6 x7 x8 x9 x10 x11 x12 x13 x14 x15 x17 x19 x20 x21 x22 x23 x24 x25 x26 x27 x28 x29 x30 x31 x32 x33 x34 x35 x36 x37 x38 x39 x40 x41 x42 x43 x44 x45 x46 x47 x48 x49 x62 x63 x64 x65 x66 x67 x68 x69 x70 x71 x72 x73 x74 x75 x76 x77 x78 x79 x80 x81 x82 x83 x84 x85 x86 x87 x88 x89 x90 x91 x92 x93 x94 x95 x96 x97 x98 x99 x100 x101 x102 x103 x104 x105 x106 x107 x108 x109 x110 x111 x112 x113 x114 x115 x116⟩
end Go.Den
