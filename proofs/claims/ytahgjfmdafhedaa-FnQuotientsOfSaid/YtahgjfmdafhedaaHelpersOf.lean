/- HelpersOf of both. -/
import Derived.Test.YtahgjfmdafhedaaHelp
namespace Go.Proofs.Ytahgjfmdafhedaa
open Go.RowKit Mat
set_option linter.unusedVariables false

/-- What HelpersOf answers. -/
def HelpersR (p : Int) (rows : List (List Int)) (i : Int) (out : List Int) : Prop :=
  (ValidC p rows ∧ inB i 0 (((gr rows 0).length : Int) - 1) = true → ∃ (q : Nat) (_ : NeZero q), p = q ∧ LeastTo (2 ^ (gr rows 0).length) (HelpQ q rows (gr rows 0).length i.toNat) (((gr rows 0).length + 1) * 2 ^ (gr rows 0).length) out) ∧
  (¬ (ValidC p rows ∧ inB i 0 (((gr rows 0).length : Int) - 1) = true) → out = [])
theorem HelpersR.unique {p : Int} {rows : List (List Int)} {i : Int} {a b : List Int} (h : HelpersR p rows i a) (h' : HelpersR p rows i b) : a = b := by
  by_cases c : ValidC p rows ∧ inB i 0 (((gr rows 0).length : Int) - 1) = true
  · obtain ⟨q, i1, e, h1⟩ := h.1 c
    obtain ⟨q', i2, e', h2⟩ := h'.1 c
    obtain rfl : q = q' := by omega
    exact h1.unique h2
  · rw [h.2 c, h'.2 c]
theorem HelpersR.small {p : Int} {rows : List (List Int)} {i : Int} {a : List Int} (h : HelpersR p rows i a) : a.length ≤ 1048576 := by
  by_cases c : ValidC p rows ∧ inB i 0 (((gr rows 0).length : Int) - 1) = true
  · obtain ⟨q, i1, e, h1⟩ := h.1 c
    have hb := (h1.bounds (Nat.two_pow_pos _)).1
    have hn := c.1.few.2.2.2.1
    have hp := pow_lt hn
    have := Nat.mul_le_mul (show (gr rows 0).length + 1 ≤ 8 by omega) hp
    omega
  · rw [h.2 c]; simp

end Go.Proofs.Ytahgjfmdafhedaa
