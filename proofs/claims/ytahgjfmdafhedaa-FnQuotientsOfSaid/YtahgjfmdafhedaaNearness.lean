/- NearnessOf of both. -/
import Derived.Test.YtahgjfmdafhedaaHelpersOf
namespace Go.Proofs.Ytahgjfmdafhedaa
open Go.RowKit Mat
set_option linter.unusedVariables false

/-- The helpers of a column. -/
def HelpL (q : Nat) [NeZero q] (rows : List (List Int)) (n i : Nat) (out : List Int) : Prop := LeastTo (2 ^ n) (HelpQ q rows n i) ((n + 1) * 2 ^ n) out
/-- The greatest of the least helpers' sizes of the first k columns. -/
def NearTo (q : Nat) [NeZero q] (rows : List (List Int)) (n : Nat) : Nat → Nat → Prop
  | 0, t => t = 0
  | k + 1, t => ∃ s out, NearTo q rows n k s ∧ HelpL q rows n k out ∧ 0 < out.length ∧ t = max s (wtN (gi out 0).toNat 7)
theorem NearTo.unique {q : Nat} [NeZero q] {rows : List (List Int)} {n : Nat} : ∀ {k a b : Nat}, NearTo q rows n k a → NearTo q rows n k b → a = b
  | 0, a, b, h, h' => by rw [show a = 0 from h, show b = 0 from h']
  | k + 1, a, b, ⟨s, out, h1, h2, h3, h4⟩, ⟨s', out', h1', h2', h3', h4'⟩ => by
    obtain rfl := h1.unique h1'
    obtain rfl := LeastTo.unique h2 h2'
    rw [h4, h4']
theorem NearTo.some {q : Nat} [NeZero q] {rows : List (List Int)} {n : Nat} : ∀ {k t : Nat}, NearTo q rows n k t → ∀ j, j < k → ¬ HelpL q rows n j []
  | 0, t, h, j, hj, _ => by omega
  | k + 1, t, ⟨s, out, h1, h2, h3, h4⟩, j, hj, h => by
    by_cases e : j = k
    · subst e
      have := LeastTo.unique h h2
      rw [← this] at h3
      simp at h3
    · exact h1.some j (by omega) h
theorem NearTo.le {q : Nat} [NeZero q] {rows : List (List Int)} {n : Nat} : ∀ {k t : Nat}, NearTo q rows n k t → t ≤ 7
  | 0, t, h => by rw [show t = 0 from h]; omega
  | k + 1, t, ⟨s, out, h1, h2, h3, h4⟩ => by
    have := h1.le
    have := wtN_le (gi out 0).toNat 7
    omega
/-- What NearnessOf answers. -/
def NearR (p : Int) (rows : List (List Int)) (t : Int) (ok : Bool) : Prop :=
  (ValidC p rows → ∃ (q : Nat) (_ : NeZero q), p = q ∧ ((ok = true ∧ ∃ m : Nat, t = m ∧ NearTo q rows (gr rows 0).length (gr rows 0).length m) ∨ (ok = false ∧ t = 0 ∧ ∃ j, j < (gr rows 0).length ∧ HelpL q rows (gr rows 0).length j []))) ∧
  (¬ ValidC p rows → t = 0 ∧ ok = false)
theorem NearR.unique {p : Int} {rows : List (List Int)} {a b : Int} {x y : Bool} (h : NearR p rows a x) (h' : NearR p rows b y) : a = b ∧ x = y := by
  by_cases c : ValidC p rows
  · obtain ⟨q, i1, e, h1⟩ := h.1 c
    obtain ⟨q', i2, e', h2⟩ := h'.1 c
    obtain rfl : q = q' := by omega
    rcases h1 with ⟨x1, m, e1, n1⟩ | ⟨x1, e1, j, hj, n1⟩ <;> rcases h2 with ⟨x2, m', e2, n2⟩ | ⟨x2, e2, j', hj', n2⟩
    · rw [e1, e2, n1.unique n2, x1, x2]; exact ⟨rfl, rfl⟩
    · exact absurd n2 (n1.some j' hj')
    · exact absurd n1 (n2.some j hj)
    · rw [e1, e2, x1, x2]; exact ⟨rfl, rfl⟩
  · obtain ⟨rfl, rfl⟩ := h.2 c
    obtain ⟨rfl, rfl⟩ := h'.2 c
    exact ⟨rfl, rfl⟩
/-- It ends with a number and an answer. -/
def TellsNB (w : World) (e : Ending) (w' : World) (Q : Int → Bool → Prop) : Prop := ∃ (t : Int) (ok : Bool), e = .returned (.tuple #[.int .i64 t, .bool ok]) ∧ Q t ok ∧ New w w'

end Go.Proofs.Ytahgjfmdafhedaa
