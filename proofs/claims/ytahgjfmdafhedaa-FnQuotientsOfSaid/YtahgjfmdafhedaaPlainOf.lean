/- PlainOf of both. -/
import Derived.Test.YtahgjfmdafhedaaKnow
import Derived.Test.YtahgjfmdafhedaaLawK
import Derived.Deep.RegionHeld3
namespace Go.Proofs.Ytahgjfmdafhedaa
open Go.RowKit Mat
set_option linter.unusedVariables false

/-- It ends with a code of its own. -/
def GivesC (w : World) (e : Ending) (w' : World) (Q : Int → List (List Int) → Prop) : Prop :=
  ∃ u vs out p, e = .returned (.agg #[.int .i64 p, u]) ∧ OwnR w' 23 3 u vs out ∧ FromR w.heap.size u vs out ∧ Q p out ∧ New w w'

/-- What PlainOf answers. -/
def PlainR (p : Int) (rows : List (List Int)) (p' : Int) (out : List (List Int)) : Prop :=
  (ValidC p rows → p' = p ∧ RedOf p rows out) ∧ (¬ ValidC p rows → p' = 0 ∧ out = [])

/-- The reference's answer and the program's are one. -/
structure PlainQ (p : Int) (rows : List (List Int)) (p' : Int) (out : List (List Int)) : Prop where
  told : PlainR p rows p' out
theorem PlainQ.unique {p : Int} {rows : List (List Int)} {p1 p2 : Int} {a b : List (List Int)} (h : PlainQ p rows p1 a) (h' : PlainQ p rows p2 b) : p1 = p2 ∧ a = b := by
  by_cases c : ValidC p rows
  · exact ⟨(h.told.1 c).1.trans (h'.told.1 c).1.symm, (h.told.1 c).2.unique (h'.told.1 c).2⟩
  · exact ⟨(h.told.2 c).1.trans (h'.told.2 c).1.symm, (h.told.2 c).2.trans (h'.told.2 c).2.symm⟩
theorem PlainQ.small {p : Int} {rows : List (List Int)} {p1 : Int} {a : List (List Int)} (h : PlainQ p rows p1 a) : a.length ≤ 1048576 ∧ ∀ i, i < a.length → (gr a i).length ≤ 1048576 := by
  by_cases c : ValidC p rows
  · have := (h.told.1 c).2.bounds c.1
    exact ⟨by omega, fun i hi => by have := this.2 i hi; omega⟩
  · rw [(h.told.2 c).2]; simp

end Go.Proofs.Ytahgjfmdafhedaa
