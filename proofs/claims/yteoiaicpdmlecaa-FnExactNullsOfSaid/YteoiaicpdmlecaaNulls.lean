/- NullsOf of both. -/
import Derived.Test.YteoiaicpdmlecaaNullsC
import Derived.Test.YteoiaicpdmlecaaKnown
namespace Go.Proofs.Yteoiaicpdmlecaa
open Go.RowKit Mat
set_option linter.unusedVariables false

/-- The checks of a table. -/
def NulC (p : Int) (rows out : List (List Int)) : Prop :=
  ∃ (q : Nat) (_ : NeZero q), p = q ∧ Pr q ∧ ∃ a, IsRed q (gr rows 0).length rows a ∧ out = nlTo q (gr rows 0).length a (gr rows 0).length
theorem NulC.unique {p : Int} {rows a b : List (List Int)} (h : NulC p rows a) (h' : NulC p rows b) : a = b := by
  obtain ⟨q, i1, e1, hq, o1, r1, rfl⟩ := h
  obtain ⟨q', i2, e2, hq', o2, r2, rfl⟩ := h'
  obtain rfl : q = q' := by omega
  rw [IsRed.unique hq r1 r2]
theorem NulC.bounds {p : Int} {rows a : List (List Int)} (h : NulC p rows a) : a.length ≤ (gr rows 0).length ∧ ∀ i, i < a.length → (gr a i).length = (gr rows 0).length := by
  obtain ⟨q, i1, e1, hq, o1, r1, rfl⟩ := h
  exact ⟨nlTo_length _ _ _ _, nlTo_rows⟩

theorem specNulls_c (q : Nat) [NeZero q] (n : Nat) (v : Value) (rows : List (List Int)) (w : World) (hr : IsR w v rows) (ht : TabOk q n rows) :
    Calls Try.prog 74 #[.int .i64 q, v] w fun e w' => ∃ u vs out, e = .returned u ∧ NulC q rows out ∧ OwnR w' 31 3 u vs out ∧ FromR w.heap.size u vs out ∧ New w w' :=
  (specNulls_any q n v rows w hr ht).mono fun e w' ⟨u, vs, a, h1, h2, h3, h4, h5⟩ => ⟨u, vs, _, h1, ⟨q, inferInstance, rfl, ht.pr, a, by rw [ht.cols]; exact h2, by rw [ht.cols]⟩, h3, h4, h5⟩
theorem implNulls_c (q : Nat) [NeZero q] (n : Nat) (v : Value) (rows : List (List Int)) (w : World) (hr : IsR w v rows) (ht : TabOk q n rows) :
    Calls Try.prog 76 #[.int .i64 q, v] w fun e w' => ∃ u vs out, e = .returned u ∧ NulC q rows out ∧ OwnR w' 31 3 u vs out ∧ FromR w.heap.size u vs out ∧ New w w' :=
  (implNulls_any q n v rows w hr ht).mono fun e w' ⟨u, vs, a, h1, h2, h3, h4, h5⟩ => ⟨u, vs, _, h1, ⟨q, inferInstance, rfl, ht.pr, a, by rw [ht.cols]; exact h2, by rw [ht.cols]⟩, h3, h4, h5⟩
end Go.Proofs.Yteoiaicpdmlecaa
