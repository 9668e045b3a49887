/-
  The shapes of the window laws' arguments. Conditions: as each statement says.
-/
import Derived.Test.YtanckiphgbnfpaaDoorDenRow
import Derived.Test.YtanckiphgbnfpaaDoorDenW12
namespace Go.Den
open Go.Proofs
set_option maxRecDepth 100000
theorem plain3 : ∀ n, plainType Tryd.prog n 3 = true
  | 0 => rfl
  | n + 1 => by rw [plainType, Tryd.underlying3]
theorem plain9 : ∀ n, plainType Tryd.prog n 9 = true
  | 0 => rfl
  | n + 1 => by rw [plainType, Tryd.underlying9]
theorem plain24 : ∀ n, plainType Tryd.prog n 24 = true ∧ plainType Tryd.prog n 22 = true
  | 0 => ⟨rfl, rfl⟩
  | n + 1 => by
    have ih := plain24 n
    refine ⟨?_, ?_⟩
    · rw [plainType, Tryd.underlying24]
      simp only [List.all_cons, List.all_nil, plain3, plain9, ih.2, Bool.and_true]
      kernel_rfl
    · rw [plainType, Tryd.underlying22]
      simp only [ih.1, Bool.and_true]
      kernel_rfl
theorem plain26 : ∀ n, plainType Tryd.prog n 26 = true
  | 0 => rfl
  | n + 1 => by
    rw [plainType, Tryd.underlying26]
    simp only [List.all_cons, List.all_nil, plain3, plain9, (plain24 n).1, Bool.and_true]
    kernel_rfl
theorem plain50 : ∀ n, plainType Tryd.prog n 50 = true
  | 0 => rfl
  | n + 1 => by
    rw [plainType, Tryd.underlying50]
    simp only [List.all_cons, List.all_nil, plain3, Bool.and_true]
    kernel_rfl
theorem plain27 : ∀ n, plainType Tryd.prog n 27 = true
  | 0 => rfl
  | n + 1 => by
    rw [plainType, Tryd.underlying27]
    simp only [plain50, Bool.and_true]
    kernel_rfl
theorem plain29 : ∀ n, plainType Tryd.prog n 29 = true
  | 0 => rfl
  | n + 1 => by
    rw [plainType, Tryd.underlying29]
    simp only [List.all_cons, List.all_nil, plain27, Bool.and_true]
    kernel_rfl
theorem sh3 {n : Nat} {a : AV} (h : Sh Tryd.prog n 3 a) : ∃ x, a = I x := by
  cases n with
  | zero => exact h.elim
  | succ n => rw [Sh, Tryd.underlying3] at h; obtain ⟨x, h, _⟩ := h; exact ⟨x, h⟩
theorem sh9 {n : Nat} {a : AV} (h : Sh Tryd.prog n 9 a) : ∃ x, a = .v (.string x) := by
  cases n with
  | zero => exact h.elim
  | succ n => rw [Sh, Tryd.underlying9] at h; obtain ⟨x, h, _⟩ := h; exact ⟨x, h⟩
theorem sh22 {n : Nat} {a : AV} (h : Sh Tryd.prog n 22 a) : a.cells = [a] := by
  cases n with
  | zero => exact h.elim
  | succ n =>
    rw [Sh, Tryd.underlying22] at h
    rcases h with rfl | ⟨es, rfl, _⟩ <;> rfl
theorem sh24 {n : Nat} {a : AV} (h : Sh Tryd.prog n 24 a) : ∃ x4 x5 x6 x7 x8, a = .agg [x4, x5, x6, x7, x8] := by
  cases n with
  | zero => exact h.elim
  | succ n =>
    rw [Sh, Tryd.underlying24] at h
    obtain ⟨xs, h1, h2, h3⟩ := h
    match xs, h1 with
    | [y0, y1, y2, y3, y4], _ =>
      simp only [List.zip_cons_cons, List.mem_cons] at h3
      obtain ⟨z0, rfl⟩ := sh3 (h3 _ (.inl rfl))
      obtain ⟨z1, rfl⟩ := sh9 (h3 _ (.inr (.inl rfl)))
      obtain ⟨z2, rfl⟩ := sh3 (h3 _ (.inr (.inr (.inl rfl))))
      obtain ⟨z3, rfl⟩ := sh3 (h3 _ (.inr (.inr (.inr (.inl rfl)))))
      have h4 := sh22 (h3 _ (.inr (.inr (.inr (.inr (.inl rfl))))))
      have h4' : y4.cells = [y4] := h4
      exact ⟨I z0, .v (.string z1), I z2, I z3, y4, by rw [h2]; simp only [List.flatMap_cons, List.flatMap_nil, h4']; rfl⟩
theorem sh26 {n : Nat} {a : AV} (h : Sh Tryd.prog n 26 a) : ∃ x : Mea, a = x.av := by
  cases n with
  | zero => exact h.elim
  | succ n =>
    rw [Sh, Tryd.underlying26] at h
    obtain ⟨xs, h1, h2, h3⟩ := h
    match xs, h1 with
    | [y0, y1, y2, y3, y4, y5, y6, y7], _ =>
      simp only [List.zip_cons_cons, List.mem_cons] at h3
      obtain ⟨z0, rfl⟩ := sh9 (h3 _ (.inl rfl))
      obtain ⟨z1, rfl⟩ := sh9 (h3 _ (.inr (.inl rfl)))
      obtain ⟨z2, rfl⟩ := sh3 (h3 _ (.inr (.inr (.inl rfl))))
      obtain ⟨z3, rfl⟩ := sh9 (h3 _ (.inr (.inr (.inr (.inl rfl)))))
      obtain ⟨x4, x5, x6, x7, x8, rfl⟩ := sh24 (h3 _ (.inr (.inr (.inr (.inr (.inl rfl))))))
      obtain ⟨z5, rfl⟩ := sh3 (h3 _ (.inr (.inr (.inr (.inr (.inr (.inl rfl)))))))
      obtain ⟨z6, rfl⟩ := sh3 (h3 _ (.inr (.inr (.inr (.inr (.inr (.inr (.inl rfl))))))))
      obtain ⟨z7, rfl⟩ := sh3 (h3 _ (.inr (.inr (.inr (.inr (.inr (.inr (.inr (.inl rfl)))))))))
      exact ⟨⟨_, _, z2, _, x4, x5, x6, x7, x8, z5, z6, z7⟩, h2⟩
theorem sh50 {n : Nat} {a : AV} (h : Sh Tryd.prog n 50 a) : ∃ p, a = shv p := by
  cases n with
  | zero => exact h.elim
  | succ n =>
    rw [Sh, Tryd.underlying50] at h
    obtain ⟨xs, h1, h2, h3⟩ := h
    match xs, h1 with
    | [y0, y1], _ =>
      simp only [List.zip_cons_cons, List.mem_cons] at h3
      obtain ⟨z0, rfl⟩ := sh3 (h3 _ (.inl rfl))
      obtain ⟨z1, rfl⟩ := sh3 (h3 _ (.inr (.inl rfl)))
      exact ⟨(z0, z1), h2⟩
theorem shs_of {n : Nat} : ∀ {es : List AV}, (∀ x ∈ es, Sh Tryd.prog n 50 x) → ∃ Z : List (Int × Int), es = Z.map shv
  | [], _ => ⟨[], rfl⟩
  | e :: es, h => by
    obtain ⟨Z, rfl⟩ := shs_of (es := es) (fun x hx => h x (List.mem_cons_of_mem _ hx))
    obtain ⟨p, rfl⟩ := sh50 (h e (by simp))
    exact ⟨p :: Z, rfl⟩
theorem sh29 {n : Nat} {a : AV} (h : Sh Tryd.prog n 29 a) : ∃ b Z, a = .agg [b] ∧ ShL b Z := by
  cases n with
  | zero => exact h.elim
  | succ n =>
    rw [Sh, Tryd.underlying29] at h
    obtain ⟨xs, h1, h2, h3⟩ := h
    match xs, h1 with
    | [y0], _ =>
      simp only [List.zip_cons_cons, List.mem_cons] at h3
      have h4 := h3 _ (.inl rfl)
      cases n with
      | zero => exact h4.elim
      | succ n =>
        simp only at h4
        rw [Sh, Tryd.underlying27] at h4
        rcases h4 with rfl | ⟨es, rfl, _, h5⟩
        · exact ⟨_, [], h2, .inl ⟨rfl, rfl⟩⟩
        · obtain ⟨Z, rfl⟩ := shs_of h5
          refine ⟨_, Z, h2, .inr ⟨.no, fun _ => rfl, ?_⟩⟩
          rw [show Tryd.prog.cellsOf 50 = 2 by kernel_rfl]
end Go.Den
