/- The generators' codes. -/
import Derived.Test.YtahgjfmdafhedaaGenM
import Derived.Deep.DeepCutAuto
import Derived.Deep.CutBlock
namespace Go.Proofs.Ytahgjfmdafhedaa
open Go.RowKit
set_option linter.unusedVariables false

/-- It ends with a code of its own that has some rows, and the reader has gone on. -/
def PicksC (g N : Nat) (w : World) (e : Ending) (w' : World) : Prop :=
  ∃ a l c vs out p, e = .returned (.agg #[.int .i64 p, .slice a l c]) ∧ OwnR w' 23 3 (.slice a l c) vs out ∧ FromR w.heap.size (.slice a l c) vs out ∧ RowsQ out ∧ (2 ≤ p ∧ p ≤ 7) ∧ Rd w' g N ∧ Chg (· = g) w w'

/-- Three rows that have just been laid. -/
theorem ownR_lit3 (w : World) (x1 x2 x3 : List Int) (h1 : x1.length ≤ 1000) (h2 : x2.length ≤ 1000) (h3 : x3.length ≤ 1000) :
    OwnR ((((w.alloc (.cells (x1.map (Value.int .i64)).toArray 3)).alloc (.cells (x2.map (Value.int .i64)).toArray 3)).alloc (.cells (x3.map (Value.int .i64)).toArray 3)).alloc (.cells #[.slice (some ⟨w.heap.size, 0, none⟩) x1.length x1.length, .slice (some ⟨w.heap.size + 1, 0, none⟩) x2.length x2.length, .slice (some ⟨w.heap.size + 1 + 1, 0, none⟩) x3.length x3.length] 23))
      23 3 (.slice (some ⟨w.heap.size + 1 + 1 + 1, 0, none⟩) 3 3) [.slice (some ⟨w.heap.size, 0, none⟩) x1.length x1.length, .slice (some ⟨w.heap.size + 1, 0, none⟩) x2.length x2.length, .slice (some ⟨w.heap.size + 1 + 1, 0, none⟩) x3.length x3.length] [x1, x2, x3] := by
  have o1 := Own.lit w 3 (x1.map (Value.int .i64)) (by rw [List.length_map]; exact h1)
  have o2 := Own.lit (w.alloc (.cells (x1.map (Value.int .i64)).toArray 3)) 3 (x2.map (Value.int .i64)) (by rw [List.length_map]; exact h2)
  have o3 := Own.lit ((w.alloc (.cells (x1.map (Value.int .i64)).toArray 3)).alloc (.cells (x2.map (Value.int .i64)).toArray 3)) 3 (x3.map (Value.int .i64)) (by rw [List.length_map]; exact h3)
  have o4 := Own.lit (((w.alloc (.cells (x1.map (Value.int .i64)).toArray 3)).alloc (.cells (x2.map (Value.int .i64)).toArray 3)).alloc (.cells (x3.map (Value.int .i64)).toArray 3)) 23 [.slice (some ⟨w.heap.size, 0, none⟩) x1.length x1.length, .slice (some ⟨w.heap.size + 1, 0, none⟩) x2.length x2.length, .slice (some ⟨w.heap.size + 1 + 1, 0, none⟩) x3.length x3.length] (by simp)
  rw [List.length_map] at o1 o2 o3
  simp only [World.size_alloc] at o2 o3 o4
  refine ⟨o4, rfl, fun i hi => ?_, fun i j hi hj hne => ?_⟩
  · match i, hi with
    | 0, _ => exact ((o1.new (New.alloc _ _)).new (New.alloc _ _)).new (New.alloc _ _)
    | 1, _ => exact (o2.new (New.alloc _ _)).new (New.alloc _ _)
    | 2, _ => exact o3.new (New.alloc _ _)
  · intro g hg hg'
    match i, j, hi, hj with
    | 0, 0, _, _ => exact hne rfl
    | 0, 1, _, _ => simp [gv, Value.ownBlock] at hg hg'; omega
    | 0, 2, _, _ => simp [gv, Value.ownBlock] at hg hg'; omega
    | 1, 0, _, _ => simp [gv, Value.ownBlock] at hg hg'; omega
    | 1, 1, _, _ => exact hne rfl
    | 1, 2, _, _ => simp [gv, Value.ownBlock] at hg hg'; omega
    | 2, 0, _, _ => simp [gv, Value.ownBlock] at hg hg'; omega
    | 2, 1, _, _ => simp [gv, Value.ownBlock] at hg hg'; omega
    | 2, 2, _, _ => exact hne rfl
theorem fromR_lit3 (B g1 g2 g3 g4 n1 n2 n3 : Nat) (x1 x2 x3 : List Int) (h1 : B ≤ g1) (h2 : B ≤ g2) (h3 : B ≤ g3) (h4 : B ≤ g4) : FromR B (.slice (some ⟨g4, 0, none⟩) 3 3) [.slice (some ⟨g1, 0, none⟩) n1 n1, .slice (some ⟨g2, 0, none⟩) n2 n2, .slice (some ⟨g3, 0, none⟩) n3 n3] [x1, x2, x3] := by
  refine ⟨fun g hg => by simp [Value.ownBlock] at hg; omega, fun i hi => ?_⟩
  match i, hi with
  | 0, _ => intro g hg; simp [gv, Value.ownBlock] at hg; omega
  | 1, _ => intro g hg; simp [gv, Value.ownBlock] at hg; omega
  | 2, _ => intro g hg; simp [gv, Value.ownBlock] at hg; omega

/-- One row that has just been laid. -/
theorem ownR_lit1 (w : World) (x1 : List Int) (h1 : x1.length ≤ 1000) :
    OwnR ((w.alloc (.cells (x1.map (Value.int .i64)).toArray 3)).alloc (.cells #[.slice (some ⟨w.heap.size, 0, none⟩) x1.length x1.length] 23))
      23 3 (.slice (some ⟨w.heap.size + 1, 0, none⟩) 1 1) [.slice (some ⟨w.heap.size, 0, none⟩) x1.length x1.length] [x1] := by
  have o1 := Own.lit w 3 (x1.map (Value.int .i64)) (by rw [List.length_map]; exact h1)
  have o4 := Own.lit (w.alloc (.cells (x1.map (Value.int .i64)).toArray 3)) 23 [.slice (some ⟨w.heap.size, 0, none⟩) x1.length x1.length] (by simp)
  rw [List.length_map] at o1
  simp only [World.size_alloc] at o4
  refine ⟨o4, rfl, fun i hi => ?_, fun i j hi hj hne => ?_⟩
  · match i, hi with
    | 0, _ => exact o1.new (New.alloc _ _)
  · match i, j, hi, hj with
    | 0, 0, _, _ => exact (hne rfl).elim
theorem fromR_lit1 (B g1 g4 n1 : Nat) (x1 : List Int) (h1 : B ≤ g1) (h4 : B ≤ g4) : FromR B (.slice (some ⟨g4, 0, none⟩) 1 1) [.slice (some ⟨g1, 0, none⟩) n1 n1] [x1] := by
  refine ⟨fun g hg => by simp [Value.ownBlock] at hg; omega, fun i hi => ?_⟩
  match i, hi with
  | 0, _ => intro g hg; simp [gv, Value.ownBlock] at hg; omega

end Go.Proofs.Ytahgjfmdafhedaa
