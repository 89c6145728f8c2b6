/- A block of one cell. -/
import Derived.Test.YteoiaicpdmlecaaBlk
namespace Go.Proofs.Yteoiaicpdmlecaa
open Go.RowKit
set_option linter.unusedVariables false

/-- A block of one cell, that may be written. -/
def Blk1 (w : World) (g : Nat) (a : Value) (t : TypeId) : Prop := w.heap[g]? = some (.cells #[a] t (0, 0))
theorem Blk1.cells {w : World} {g : Nat} {a : Value} {t : TypeId} (h : Blk1 w g a t) : w.cell? ⟨g, 0, none⟩ = some a ∧ w.frozen? ⟨g, 0, none⟩ = false :=
  ⟨by rw [cell_of_heap h]; rfl, frozen_of_heap h 0⟩
theorem Blk1.chg {S : Nat → Prop} {w w' : World} {g : Nat} {a : Value} {t : TypeId} (h : Blk1 w g a t) (hc : Chg S w w') (hS : ¬ S g) : Blk1 w' g a t := hc.heapAt h hS
theorem Blk1.new {w w' : World} {g : Nat} {a : Value} {t : TypeId} (h : Blk1 w g a t) (hc : New w w') : Blk1 w' g a t := hc.heapAt h (fun x => x)
theorem Blk1.alloc (w : World) (a : Value) (t : TypeId) : Blk1 (w.alloc (.cells #[a] t)) w.heap.size a t := heap_alloc_new w _
theorem Blk1.put {w : World} {g : Nat} {a : Value} {t : TypeId} (h : Blk1 w g a t) (x : Value) : Blk1 (w.setCell ⟨g, 0, none⟩ x) g x t := by
  have h' : w.heap[g]? = some (.cells #[a] t (0, 0)) := h
  simp [Blk1, World.setCell, Array.getElem?_modify, h']
theorem Blk1.lt {w : World} {g : Nat} {a : Value} {t : TypeId} (h : Blk1 w g a t) : g < w.heap.size := (Array.getElem?_eq_some_iff.1 h).1
end Go.Proofs.Yteoiaicpdmlecaa
