/- (field).solve. -/
import Derived.Test.YtcdbeepphdfipaaGreatDoorLawK
import Derived.Test.YtcdbeepphdfipaaGreatDoorSolS
import Derived.Deep.DeepCutAuto
import Derived.Deep.Light
import Derived.IntWalk
import Derived.Test.YtcdbeepphdfipaaGreatDoorBase
namespace Go.Proofs.YtcdbeepphdfipaaGreatDoor
open Go.RowKit Mat
set_option linter.unusedVariables false

/-- All old cells and marks read as before. -/
theorem oldCells {W w1 : World} (hb : New W w1) : (∀ b o, b < W.heap.size → w1.cell? ⟨b, o, none⟩ = W.cell? ⟨b, o, none⟩) ∧ (∀ b o, b < W.heap.size → w1.frozen? ⟨b, o, none⟩ = W.frozen? ⟨b, o, none⟩) :=
  ⟨fun b o h => hb.below.cell (p := ⟨b, o, none⟩) h, fun b o h => hb.below.frozen (p := ⟨b, o, none⟩) h⟩


theorem Blk2.putB {w : World} {g : Nat} {a b : Value} {t : TypeId} (h : Blk2 w g a b t) (x y : Value) : Blk2 ((w.setCell ⟨g, 0, none⟩ x).setCell ⟨g, 1, none⟩ y) g x y t := by
  have h' : w.heap[g]? = some (.cells #[a, b] t (0, 0)) := h
  simp [Blk2, World.setCell, Array.getElem?_modify, h']

theorem OwnP.apart {w : World} {e e' : TypeId} {v u : Value} {xs : List (Value × Value)} {ys : List Value} (h : OwnP w e v xs) (h' : Own w e' u ys) (hne : e ≠ e') : Apart v u := by
  intro g hg hg'
  rcases h with ⟨rfl, _⟩ | ⟨g1, c1, cur1, rfl, hh1, _⟩
  · simp [Value.ownBlock] at hg
  · rcases h' with ⟨h2, _⟩ | ⟨g2, c2, cur2, h2, hh2, _⟩
    · rw [h2] at hg'; simp [Value.ownBlock] at hg'
    · rw [h2] at hg'
      simp [Value.ownBlock] at hg hg'
      subst hg; subst hg'
      rw [hh1] at hh2
      simp at hh2
      exact hne hh2.2
/-- The first j factors have been turned round. -/
def negTo (q : Int) (f : List Int) (m j : Nat) : List Int := tab m (fun i => if i < j then (-(gi f i)) % q else gi f i)
theorem negTo_zero (q : Int) (f : List Int) : negTo q f f.length 0 = f :=
  ext_gi (tab_length _ _) (fun i hi => by unfold negTo at hi ⊢; rw [tab_length] at hi; rw [tab_get hi, if_neg (by omega)])
theorem negTo_all (q : Int) (f : List Int) : negTo q f f.length f.length = negF q f :=
  ext_gi (by unfold negTo; rw [tab_length]; simp [negF]) (fun i hi => by unfold negTo at hi ⊢; rw [tab_length] at hi; rw [tab_get hi, if_pos hi, negF_get q hi])

end Go.Proofs.YtcdbeepphdfipaaGreatDoor
