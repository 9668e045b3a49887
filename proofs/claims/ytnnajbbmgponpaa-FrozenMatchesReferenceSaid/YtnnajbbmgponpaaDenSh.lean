/-
  The shapes of the laws' arguments. Conditions: as each statement says.
-/
import Derived.Test.YtnnajbbmgponpaaDenRow
import Derived.Test.YtnnajbbmgponpaaDenF13
namespace Go.Den
open Go.Proofs
theorem plain3 : ∀ n, plainType Try.prog n 3 = true
  | 0 => rfl
  | n + 1 => by rw [plainType, Try.underlying3]
theorem plain4 : ∀ n, plainType Try.prog n 4 = true
  | 0 => rfl
  | n + 1 => by rw [plainType, Try.underlying4]
theorem plain30 : ∀ n, plainType Try.prog n 30 = true
  | 0 => rfl
  | n + 1 => by
    rw [plainType, Try.underlying30]
    simp only [List.all_cons, List.all_nil, plain3, plain4, Bool.and_true]
    kernel_rfl
theorem plain22 : ∀ n, plainType Try.prog n 22 = true
  | 0 => rfl
  | n + 1 => by
    rw [plainType, Try.underlying22]
    simp only [plain30, Bool.and_true]
    kernel_rfl
theorem sh3 {n : Nat} {a : AV} (h : Sh Try.prog n 3 a) : ∃ x, a = I x := by
  cases n with
  | zero => exact h.elim
  | succ n => rw [Sh, Try.underlying3] at h; obtain ⟨x, h, _⟩ := h; exact ⟨x, h⟩
theorem sh4 {n : Nat} {a : AV} (h : Sh Try.prog n 4 a) : ∃ x, a = B x := by
  cases n with
  | zero => exact h.elim
  | succ n => rw [Sh, Try.underlying4] at h; obtain ⟨x, h⟩ := h; exact ⟨x, h⟩
theorem sh30 {n : Nat} {a : AV} (h : Sh Try.prog n 30 a) : ∃ x, a = stpv x := by
  cases n with
  | zero => exact h.elim
  | succ n =>
    rw [Sh, Try.underlying30] at h
    obtain ⟨xs, h1, h2, h3⟩ := h
    match xs, h1 with
    | [x0, x1, x2, x3], _ =>
      simp only [List.zip_cons_cons, List.mem_cons] at h3
      obtain ⟨k, rfl⟩ := sh3 (h3 _ (.inl rfl))
      obtain ⟨d, rfl⟩ := sh3 (h3 _ (.inr (.inl rfl)))
      obtain ⟨u, rfl⟩ := sh3 (h3 _ (.inr (.inr (.inl rfl))))
      obtain ⟨l, rfl⟩ := sh4 (h3 _ (.inr (.inr (.inr (.inl rfl)))))
      exact ⟨(k, d, u, l), h2⟩
theorem stps_of {n : Nat} : ∀ {es : List AV}, (∀ x ∈ es, Sh Try.prog n 30 x) → ∃ S : List Stp, es = S.map stpv
  | [], _ => ⟨[], rfl⟩
  | e :: es, h => by
    obtain ⟨S, rfl⟩ := stps_of (es := es) (fun x hx => h x (List.mem_cons_of_mem _ hx))
    obtain ⟨x, rfl⟩ := sh30 (h e (by simp))
    exact ⟨x :: S, rfl⟩
theorem sh22 {n : Nat} {a : AV} (h : Sh Try.prog n 22 a) : ∃ S, StpL a S := by
  cases n with
  | zero => exact h.elim
  | succ n =>
    rw [Sh, Try.underlying22] at h
    rcases h with rfl | ⟨es, rfl, _, h⟩
    · exact ⟨[], .inl ⟨rfl, rfl⟩⟩
    · obtain ⟨S, rfl⟩ := stps_of h
      exact ⟨S, .inr ⟨.no, by rw [show Try.prog.cellsOf 30 = 4 by kernel_rfl]⟩⟩
/-- No function is taken unread. -/
theorem prim_ok : PrimOk Try.prog cfg0 := by
  intro g k h
  simp only [cfg0] at h
  split at h <;> cases h
end Go.Den
