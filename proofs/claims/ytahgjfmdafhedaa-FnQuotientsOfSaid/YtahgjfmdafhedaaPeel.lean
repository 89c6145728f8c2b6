/- spec.peel, impl.peel: what stays lost. -/
import Derived.Test.YtahgjfmdafhedaaBitL
import Derived.Test.YtahgjfmdafhedaaMend
namespace Go.Proofs.Ytahgjfmdafhedaa
open Go.RowKit
set_option linter.unusedVariables false

/-- It ends with a number that is so, and nothing has turned. -/
def GivesN (w : World) (e : Ending) (w' : World) (Q : Nat → Prop) : Prop := ∃ out : Nat, e = .returned (.int .i64 out) ∧ Q out ∧ w = w'

theorem sup_bit {x : List Int} {k cur : Nat} (h : gi x k ≠ 0) : (supTo x k &&& cur) ||| (cur &&& 2 ^ k) = supTo x (k + 1) &&& cur := by
  rw [supTo, if_neg h, Nat.and_comm cur, ← Nat.and_or_distrib_right]

/-- 1 while something was mended. -/
def mdN (v : Value) : Nat := match v with | .bool true => 1 | _ => 0

end Go.Proofs.Ytahgjfmdafhedaa
