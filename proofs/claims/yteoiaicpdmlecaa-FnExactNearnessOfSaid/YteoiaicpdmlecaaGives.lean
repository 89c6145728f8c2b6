/- What the contracts say that give a slice of numbers. -/
import Derived.Test.YteoiaicpdmlecaaKnown
import Derived.Test.YteoiaicpdmlecaaLaw
import Derived.Test.YteoiaicpdmlecaaSetA
namespace Go.Proofs.Yteoiaicpdmlecaa
open Go.RowKit
set_option linter.unusedVariables false

/-- It ends with a slice of numbers of its own. -/
def GivesI (w : World) (e : Ending) (w' : World) (Q : List Int → Prop) : Prop :=
  ∃ u out, e = .returned u ∧ Own w' 3 u (out.map (Value.int .i64)) ∧ From w.heap.size u ∧ Q out ∧ New w w'

theorem givesNil {w w' : World} {Q : List Int → Prop} (h : New w w') (hq : Q []) : GivesI w (.returned (.slice none 0 0)) w' Q :=
  ⟨_, [], rfl, Own.nil _ _, (fun g hg => by simp [Value.ownBlock] at hg), hq, h⟩

theorem ValidC.prime {p : Int} {rows : List (List Int)} (h : ValidC p rows) : 2 ≤ p ∧ p ≤ 7 := by
  have := (vtB_iff.1 h.1).1
  omega
theorem pow_lt {n : Nat} (h : n ≤ 7) : 2 ^ n ≤ 128 := two_pow_le (m := n) (n := 7) h
/-- It ends with the answer to a question. -/
def TellsB (w : World) (e : Ending) (w' : World) (Q : Prop) : Prop := ∃ b : Bool, e = .returned (.bool b) ∧ (b = true ↔ Q) ∧ New w w'
theorem wrap_pow : ∀ n : Nat, n < 8 → IntKind.i64.wrap ((2 : Int) ^ n) = ((2 ^ n : Nat) : Int) := by decide +kernel
end Go.Proofs.Yteoiaicpdmlecaa
