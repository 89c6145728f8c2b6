/- Which columns may be lost. Which columns may be lost, by the reference; IsMendable of both. IsMendable of both. -/
import Derived.Test.YtcdbeepphdfipaaGreatDoorKnow
import Derived.Test.YtcdbeepphdfipaaGreatDoorBase
namespace Go.Proofs.YtcdbeepphdfipaaGreatDoor
open Go.RowKit Mat
set_option linter.unusedVariables false

/-- The columns in lost may be lost. -/
def MendC (p : Int) (rows : List (List Int)) (lost : Nat) : Prop := RkOf p rows (2 ^ (gr rows 0).length - 1 - lost) rows.length

theorem andNot_keep : ∀ n : Nat, n < 8 → ∀ s : Nat, s < 2 ^ n → bits BinOp.andNot IntKind.i64 ((2 ^ n - 1 : Nat) : Int) (s : Int) = ((2 ^ n - 1 - s : Nat) : Int) := by decide +kernel


theorem wrap_pred : ∀ n : Nat, n < 129 → 1 ≤ n → IntKind.i64.wrap ((n : Int) - 1) = ((n - 1 : Nat) : Int) := by decide +kernel

end Go.Proofs.YtcdbeepphdfipaaGreatDoor

namespace Go.Proofs.YtcdbeepphdfipaaGreatDoor
open Go.RowKit Mat
set_option linter.unusedVariables false

end Go.Proofs.YtcdbeepphdfipaaGreatDoor

namespace Go.Proofs.YtcdbeepphdfipaaGreatDoor
open Go.RowKit Mat
set_option linter.unusedVariables false

def IsMendC (p : Int) (rows : List (List Int)) (a : Int) : Prop := ValidC p rows ∧ inB a 0 (((2 ^ (gr rows 0).length : Nat) : Int) - 1) = true ∧ MendC p rows a.toNat

end Go.Proofs.YtcdbeepphdfipaaGreatDoor
