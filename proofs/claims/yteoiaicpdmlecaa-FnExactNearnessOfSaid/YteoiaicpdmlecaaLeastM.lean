/- The least sets for which a question holds, by their sizes and then ascending. Plain. -/
import Derived.Test.YteoiaicpdmlecaaBitM
namespace Go.Proofs.Yteoiaicpdmlecaa
open Go.RowKit
set_option linter.unusedVariables false

/-- The t-th set in the order of sizes and then of values is taken. -/
def LeastP (N : Nat) (H : Nat → Prop) (t : Nat) (prev : List Int) : Prop := wtN (t % N) 7 = t / N ∧ H (t % N) ∧ ∀ j, j < prev.length → ¬ Sub (gi prev j).toNat (t % N)
/-- What is taken of the first t. -/
def LeastTo (N : Nat) (H : Nat → Prop) : Nat → List Int → Prop
  | 0, out => out = []
  | t + 1, out => ∃ prev, LeastTo N H t prev ∧ ((LeastP N H t prev ∧ out = prev ++ [((t % N : Nat) : Int)]) ∨ (¬ LeastP N H t prev ∧ out = prev))
theorem LeastTo.unique {N : Nat} {H : Nat → Prop} {t : Nat} : ∀ {a b : List Int}, LeastTo N H t a → LeastTo N H t b → a = b := by
  induction t with
  | zero => intro a b h h'; rw [show a = _ from h, show b = _ from h']
  | succ k ih =>
    rintro a b ⟨x, hx, h⟩ ⟨y, hy, h'⟩
    obtain rfl := ih hx hy
    rcases h with ⟨m, rfl⟩ | ⟨m, rfl⟩ <;> rcases h' with ⟨m', rfl⟩ | ⟨m', rfl⟩
    · rfl
    · exact absurd m m'
    · exact absurd m' m
    · rfl
theorem LeastTo.congr {N : Nat} {H H' : Nat → Prop} (hN : 0 < N) (he : ∀ s, s < N → (H s ↔ H' s)) {t : Nat} : ∀ {a : List Int}, LeastTo N H t a → LeastTo N H' t a := by
  induction t with
  | zero => intro a h; exact h
  | succ k ih =>
    rintro a ⟨x, hx, h⟩
    have e : LeastP N H k x ↔ LeastP N H' k x := by unfold LeastP; rw [he _ (Nat.mod_lt _ hN)]
    exact ⟨x, ih hx, by rw [← e]; exact h⟩
theorem LeastTo.bounds {N : Nat} {H : Nat → Prop} (hN : 0 < N) {t : Nat} : ∀ {a : List Int}, LeastTo N H t a → a.length ≤ t ∧ ∀ j, j < a.length → 0 ≤ gi a j ∧ gi a j < N := by
  induction t with
  | zero => intro a h; rw [show a = _ from h]; simp
  | succ k ih =>
    rintro a ⟨x, hx, h⟩
    have := ih hx
    rcases h with ⟨m, rfl⟩ | ⟨m, rfl⟩
    · refine ⟨by simp; omega, fun j hj => ?_⟩
      rw [List.length_append, List.length_singleton] at hj
      by_cases c : j < x.length
      · rw [gi_lt (by simp; omega), List.getElem_append_left c, ← gi_lt c]; exact this.2 j c
      · rw [gi_lt (by simp; omega), List.getElem_append_right (by omega)]
        simp
        have := Nat.mod_lt k hN
        omega
    · exact ⟨by omega, this.2⟩

theorem row_mod {N a s : Nat} (hs : s < N) : (a * N + s) % N = s := by rw [Nat.mul_comm, Nat.mul_add_mod, Nat.mod_eq_of_lt hs]
theorem row_div {N a s : Nat} (hs : s < N) : (a * N + s) / N = a := by rw [Nat.mul_comm, Nat.mul_add_div (by omega), Nat.div_eq_of_lt hs]; omega
theorem LeastTo.yes {N a s : Nat} {H : Nat → Prop} {prev : List Int} (h : LeastTo N H (a * N + s) prev) (hs : s < N) (h1 : wtN s 7 = a) (h2 : H s) (h3 : ∀ j, j < prev.length → ¬ Sub (gi prev j).toNat s) : LeastTo N H (a * N + (s + 1)) (prev ++ [(s : Int)]) := by
  have hP : LeastP N H (a * N + s) prev := by unfold LeastP; rw [row_mod hs, row_div hs]; exact ⟨h1, h2, h3⟩
  have h4 : LeastTo N H ((a * N + s) + 1) (prev ++ [(((a * N + s) % N : Nat) : Int)]) := ⟨prev, h, .inl ⟨hP, rfl⟩⟩
  rw [row_mod hs] at h4
  exact h4
theorem LeastTo.no {N a s : Nat} {H : Nat → Prop} {prev : List Int} (h : LeastTo N H (a * N + s) prev) (hs : s < N) (h1 : ¬ (wtN s 7 = a ∧ H s ∧ ∀ j, j < prev.length → ¬ Sub (gi prev j).toNat s)) : LeastTo N H (a * N + (s + 1)) prev := by
  have h4 : LeastTo N H ((a * N + s) + 1) prev := ⟨prev, h, .inr ⟨fun h2 => h1 (by unfold LeastP at h2; rw [row_mod hs, row_div hs] at h2; exact h2), rfl⟩⟩
  exact h4
theorem LeastTo.turn {N a : Nat} {H : Nat → Prop} {prev : List Int} (h : LeastTo N H (a * N + N) prev) : LeastTo N H ((a + 1) * N + 0) prev := by
  rw [Nat.add_mul, Nat.one_mul, Nat.add_zero]; exact h
/-- Sizes at which nothing holds add nothing. -/
theorem LeastTo.skip {N a : Nat} {H : Nat → Prop} {prev : List Int} (h : LeastTo N H (a * N) prev) (hno : ∀ s, s < N → wtN s 7 = a → ¬ H s) : LeastTo N H ((a + 1) * N) prev := by
  have key : ∀ s, s ≤ N → LeastTo N H (a * N + s) prev := by
    intro s
    induction s with
    | zero => intro _; exact h
    | succ s ih => intro hs; exact (ih (by omega)).no (by omega) (fun h2 => hno s (by omega) h2.1 h2.2.1)
  have := key N (Nat.le_refl _)
  rw [Nat.add_mul, Nat.one_mul]
  exact this
end Go.Proofs.Yteoiaicpdmlecaa
