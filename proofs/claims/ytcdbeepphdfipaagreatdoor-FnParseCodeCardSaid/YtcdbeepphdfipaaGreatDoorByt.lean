/- The bytes of a text. -/
import Derived.Test.YtcdbeepphdfipaaGreatDoorPieS
import Derived.Test.YtcdbeepphdfipaaGreatDoorBase
import Derived.Laws.IdiomStrings
namespace Go.Proofs.YtcdbeepphdfipaaGreatDoor
open Go.RowKit
set_option linter.unusedVariables false

theorem bytes_conv (L : List UInt8) (w : World) : ∃ cap w', (∀ S, S = bs L → (convert 9 30 (.string S)).run Tryz.prog w = .ok (.slice (some ⟨w.heap.size, 0, none⟩) L.length cap) w') ∧ New w w' ∧ w'.heap.size = w.heap.size + 1 ∧
    ∀ i (h : i < L.length), w'.cell? ⟨w.heap.size, i, none⟩ = some (.int .u8 (L[i].toNat : Nat)) := by
  have h := run_bytes_of_string (P := Tryz.prog) w 9 30 5 (bs L) Tryz.underlying9 Tryz.underlying30 Tryz.underlying5
  rw [bs_size] at h
  refine ⟨_, _, (fun S hS => by rw [hS]; exact h), ?_, ?_, fun i hi => ?_⟩
  · exact (New.drew w).trans (New.alloc _ _)
  · rw [World.size_alloc]; rfl
  · show World.cell? _ ⟨w.drew.heap.size, i, none⟩ = _
    rw [World.cell?_alloc_mark]
    exact bytesRow_at (bs L) _ i hi
end Go.Proofs.YtcdbeepphdfipaaGreatDoor
