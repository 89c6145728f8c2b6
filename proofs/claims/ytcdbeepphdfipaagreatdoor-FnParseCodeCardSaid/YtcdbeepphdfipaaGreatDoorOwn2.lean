/- A row of one's own is no block of a struct. -/
import Derived.Test.YtcdbeepphdfipaaGreatDoorLawK
namespace Go.Proofs.YtcdbeepphdfipaaGreatDoor
set_option linter.unusedVariables false
theorem own_blk2 {w : World} {e t : TypeId} {v x y : Value} {xs : List Value} {g : Nat} (h : Own w e v xs) (hb : Blk2 w g x y t) (hne : e ≠ t) : ∀ b, v.ownBlock = some b → ¬ b = g := by
  intro b hv e1
  subst e1
  rcases h with ⟨rfl, _⟩ | ⟨g1, c1, cur1, rfl, hh1, _⟩
  · simp [Value.ownBlock] at hv
  · simp [Value.ownBlock] at hv
    subst hv
    rw [hb] at hh1
    simp at hh1
    exact hne hh1.2.symm

end Go.Proofs.YtcdbeepphdfipaaGreatDoor
