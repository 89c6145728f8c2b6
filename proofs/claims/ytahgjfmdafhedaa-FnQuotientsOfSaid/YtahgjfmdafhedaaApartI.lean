/- apart of both: functions that call themselves. -/
import Derived.Test.YtahgjfmdafhedaaBitL
import Derived.Test.YtahgjfmdafhedaaRedP
import Derived.Test.YtahgjfmdafhedaaLeaf
import Derived.IntWalk
namespace Go.Proofs.Ytahgjfmdafhedaa
open Go.RowKit
set_option linter.unusedVariables false

theorem IsI.nothing (w : World) (ao : Option Addr) (cap : Nat) (h : ao = none → cap = 0) (hm : cap ≤ maxLen) : IsI w (.slice ao 0 cap) [] :=
  ⟨ao, cap, rfl, ⟨Nat.zero_le _, h⟩, hm, by simp [Mid], fun i hi => by simp at hi⟩
theorem and_cast (y u : Nat) (hy : y < 128) (hu : u < 128) {c : Nat} (hc : c = y &&& u) : bits BinOp.and IntKind.i64 (y : Int) (u : Int) = (c : Int) := by rw [hc]; exact and_i64 y hy u hu
theorem or_cast (y u : Nat) (hy : y < 128) (hu : u < 128) {c : Nat} (hc : c = y ||| u) : bits BinOp.or IntKind.i64 (y : Int) (u : Int) = (c : Int) := by rw [hc]; exact or_i64 y hy u hu
theorem or_128 : ∀ s : Nat, s < 128 → ∀ t : Nat, t < 128 → s ||| t < 128 := fun s hs t ht => Nat.or_lt_two_pow (n := 7) hs ht

end Go.Proofs.Ytahgjfmdafhedaa
