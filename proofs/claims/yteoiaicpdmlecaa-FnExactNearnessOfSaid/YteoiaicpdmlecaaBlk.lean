/- Blocks of two cells; what came in, when memory is made. -/
import Derived.Test.YteoiaicpdmlecaaLawB
namespace Go.Proofs.Yteoiaicpdmlecaa
open Go.RowKit
set_option linter.unusedVariables false

theorem RawI.new {w w' : World} {v : Value} {xs : List Int} (h : RawI w v xs) (hn : New w w') : RawI w' v xs := by
  obtain ⟨ao, cap, e, h1, h2, h3⟩ := h
  exact ⟨ao, cap, e, h1, h2, fun i hi => by
    obtain ⟨b, o, e1, e2⟩ := h3 i hi
    exact ⟨b, o, e1, hn.cellNew e2⟩⟩
theorem RawR.new {w w' : World} {v : Value} {rows : List (List Int)} (h : RawR w v rows) (hn : New w w') : RawR w' v rows := by
  obtain ⟨ao, cap, e, h1, h2, h3⟩ := h
  exact ⟨ao, cap, e, h1, h2, fun i hi => by
    obtain ⟨b, o, u, e1, e2, e3⟩ := h3 i hi
    exact ⟨b, o, u, e1, hn.cellNew e2, e3.new hn⟩⟩

theorem box2 (w : World) (t : TypeId) (a b : Value) : (w.alloc (.cells #[a, b] t)).cell? ⟨w.heap.size, 0, none⟩ = some a ∧ (w.alloc (.cells #[a, b] t)).cell? ⟨w.heap.size, 1, none⟩ = some b :=
  ⟨by rw [cell_of_heap (heap_alloc_new w _)]; rfl, by rw [cell_of_heap (heap_alloc_new w _)]; rfl⟩

/-- A block of two cells, that may be written. -/
def Blk2 (w : World) (g : Nat) (a b : Value) (t : TypeId) : Prop := w.heap[g]? = some (.cells #[a, b] t (0, 0))
theorem Blk2.cells {w : World} {g : Nat} {a b : Value} {t : TypeId} (h : Blk2 w g a b t) :
    w.cell? ⟨g, 0, none⟩ = some a ∧ w.cell? ⟨g, 1, none⟩ = some b ∧ w.frozen? ⟨g, 0, none⟩ = false ∧ w.frozen? ⟨g, 1, none⟩ = false :=
  ⟨by rw [cell_of_heap h]; rfl, by rw [cell_of_heap h]; rfl, frozen_of_heap h 0, frozen_of_heap h 1⟩
theorem Blk2.chg {S : Nat → Prop} {w w' : World} {g : Nat} {a b : Value} {t : TypeId} (h : Blk2 w g a b t) (hc : Chg S w w') (hS : ¬ S g) : Blk2 w' g a b t := hc.heapAt h hS
theorem Blk2.new {w w' : World} {g : Nat} {a b : Value} {t : TypeId} (h : Blk2 w g a b t) (hc : New w w') : Blk2 w' g a b t := hc.heapAt h (fun x => x)
theorem Blk2.alloc (w : World) (a b : Value) (t : TypeId) : Blk2 (w.alloc (.cells #[a, b] t)) w.heap.size a b t := heap_alloc_new w _

/-- Both cells are written. -/
theorem Blk2.put {w : World} {g : Nat} {a b : Value} {t : TypeId} (h : Blk2 w g a b t) (x y : Value) :
    ((w.setCell ⟨g, 0, none⟩ x).setCell ⟨g, 1, none⟩ y).cell? ⟨g, 0, none⟩ = some x ∧ ((w.setCell ⟨g, 0, none⟩ x).setCell ⟨g, 1, none⟩ y).cell? ⟨g, 1, none⟩ = some y ∧
      Chg (· = g) w ((w.setCell ⟨g, 0, none⟩ x).setCell ⟨g, 1, none⟩ y) := by
  obtain ⟨c0, c1, _, _⟩ := h.cells
  refine ⟨?_, ?_, Chg.trans (Chg.setCell _ _ _) (Chg.setCell _ _ _) (fun _ _ x => x) (fun _ _ x => x)⟩
  · rw [World.cell?_setCell_other _ _ _ _ (by simp)]
    exact World.cell?_setCell_same _ _ _ (u := a) c0
  · exact World.cell?_setCell_same _ _ _ (u := b) (by rw [World.cell?_setCell_other _ _ _ _ (by simp)]; exact c1)
end Go.Proofs.Yteoiaicpdmlecaa
