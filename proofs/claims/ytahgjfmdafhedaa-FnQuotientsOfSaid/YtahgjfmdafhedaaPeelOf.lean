/- PeelOf of both. -/
import Derived.Test.YtahgjfmdafhedaaNulk
import Derived.Test.YtahgjfmdafhedaaPeel
import Derived.Test.YtahgjfmdafhedaaMend
namespace Go.Proofs.Ytahgjfmdafhedaa
open Go.RowKit Mat
set_option linter.unusedVariables false

/-- lost is a set of the columns of a code. -/
def PeelC (p : Int) (rows : List (List Int)) (a : Int) : Prop := ValidC p rows ∧ inB a 0 (((2 ^ (gr rows 0).length : Nat) : Int) - 1) = true
/-- What PeelOf answers. -/
structure PeelQ (p : Int) (rows : List (List Int)) (a t : Int) : Prop where
  yes : PeelC p rows a → ∃ checks, NulC p rows checks ∧ ∃ out : Nat, t = out ∧ PeelR checks a.toNat out
  no : ¬ PeelC p rows a → t = -1
theorem PeelQ.unique {p : Int} {rows : List (List Int)} {a t u : Int} (h : PeelQ p rows a t) (h' : PeelQ p rows a u) : t = u := by
  by_cases c : PeelC p rows a
  · obtain ⟨k, hk, o, rfl, ho⟩ := h.yes c
    obtain ⟨k', hk', o', rfl, ho'⟩ := h'.yes c
    obtain rfl := hk.unique hk'
    rw [ho.unique ho']
  · rw [h.no c, h'.no c]

end Go.Proofs.Ytahgjfmdafhedaa
