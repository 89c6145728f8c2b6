/- strings.SplitSeq: the iterator. -/
import Derived.Test.YtcdbeepphdfipaaGreatDoorAtoi
import Derived.Laws.EntriesVeiled
namespace Go.Proofs.YtcdbeepphdfipaaGreatDoor
open Go.RowKit
set_option linter.unusedVariables false

/-- The iterator's value: the boxes of sep, of the text and of 0. -/
def seqV (s : Nat) : Value := .func (.func 100) #[] #[.pointer (some ⟨s + 1, 0, none⟩), .pointer (some ⟨s, 0, none⟩), .pointer (some ⟨s + 1 + 1, 0, none⟩)]

set_option maxHeartbeats 1000000 in
theorem splitSeq_any (S C : ByteArray) (w : World) :
    Calls Tryz.prog 29 #[.string S, .string C] w fun e w' => e = .returned (seqV w.heap.size) ∧
      w' = ((w.alloc (.cells #[.string S] 9)).alloc (.cells #[.string C] 9)).alloc (.cells #[.int .i64 0] 3) := by
  go_enter Tryz.func29, Tryz.ntmps29
  go_wp2
  go_ret
  exact ⟨rfl, rfl⟩
end Go.Proofs.YtcdbeepphdfipaaGreatDoor
