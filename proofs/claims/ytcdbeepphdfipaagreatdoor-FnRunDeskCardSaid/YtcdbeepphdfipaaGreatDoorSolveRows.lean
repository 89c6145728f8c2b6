/- impl.SolveRows, impl.ValidTable. -/
import Derived.Test.YtcdbeepphdfipaaGreatDoorSolveI
import Derived.Test.YtcdbeepphdfipaaGreatDoorKnow
namespace Go.Proofs.YtcdbeepphdfipaaGreatDoor
open Go.RowKit Mat
set_option linter.unusedVariables false

/-- A table and a goal. -/
def GoalC (p : Int) (rows : List (List Int)) (goal : List Int) : Prop := vtB p rows = true ∧ goal.length = (gr rows 0).length ∧ hasB p goal = true
/-- What SolveRows answers. -/
structure SolveQ (p : Int) (rows : List (List Int)) (goal out : List Int) (ok : Bool) : Prop where
  yes : GoalC p rows goal → ∃ (q : Nat) (_ : NeZero q), p = q ∧ SolB q rows goal out ok
  no : ¬ GoalC p rows goal → out = [] ∧ ok = false
/-- It ends with numbers of its own and an answer. -/
def GivesIB (w : World) (e : Ending) (w' : World) (Q : List Int → Bool → Prop) : Prop :=
  ∃ u out ok, e = .returned (.tuple #[u, .bool ok]) ∧ Own w' 3 u (out.map (Value.int .i64)) ∧ From w.heap.size u ∧ Q out ok ∧ New w w'
theorem givesIBno {w w' : World} {Q : List Int → Bool → Prop} (h : New w w') (hq : Q [] false) : GivesIB w (.returned (.tuple #[.slice none 0 0, .bool false])) w' Q :=
  ⟨_, [], false, rfl, Own.nil _ _, From.nil _, hq, h⟩

end Go.Proofs.YtcdbeepphdfipaaGreatDoor
