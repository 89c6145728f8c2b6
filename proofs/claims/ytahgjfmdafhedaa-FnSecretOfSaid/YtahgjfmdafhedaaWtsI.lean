/- The program's weights: a range over the iterator of messages. -/
import Derived.Test.YtahgjfmdafhedaaWtsN
import Derived.Test.YtahgjfmdafhedaaRang
import Derived.Test.YtahgjfmdafhedaaBase
namespace Go.Proofs.Ytahgjfmdafhedaa
open Go.RowKit Mat
set_option linter.unusedVariables false
attribute [local go_sem] Oper.semAt_some

theorem messages_any (q k : Nat) (w : World) :
    Calls Try.prog 68 #[.int .i64 q, .int .i64 k] w fun e w' => e = .returned (.func (.func 96) #[] #[.pointer (some ⟨w.heap.size + 1, 0, none⟩), .pointer (some ⟨w.heap.size, 0, none⟩)]) ∧
      Blk1 w' (w.heap.size + 1) (.int .i64 k) 3 ∧ Blk1 w' w.heap.size (.int .i64 q) 55 ∧ w'.heap.size = w.heap.size + 2 ∧ New w w' := by
  have h1 := Blk1.alloc w (.int .i64 q) 55
  have h2 := Blk1.alloc (w.alloc (.cells #[.int .i64 q] 55)) (.int .i64 k) 3
  rw [World.size_alloc] at h2
  have H := Lib.hid (And.intro (h1.new (New.alloc _ (.cells #[.int .i64 k] 3))) h2)
  clear h1 h2
  go_enter Try.func68, Try.ntmps68
  go_wp2_with fail
  go_ret
  exact ⟨rfl, H.out.2, H.out.1, by simp, (New.alloc _ _).trans (New.alloc _ _)⟩

end Go.Proofs.Ytahgjfmdafhedaa
