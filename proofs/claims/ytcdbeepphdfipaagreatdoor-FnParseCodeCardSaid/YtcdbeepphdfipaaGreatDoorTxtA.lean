/- Rows of texts. -/
import Derived.Test.YtcdbeepphdfipaaGreatDoorLeaf
namespace Go.Proofs.YtcdbeepphdfipaaGreatDoor
theorem tyStr : OneTy Tryz.prog 36 9 (.string ⟨#[]⟩) := OneTy.mk (n := 1) (b := 16) Tryz.underlying36 (by kernel_rfl) rfl (by decide) rfl
end Go.Proofs.YtcdbeepphdfipaaGreatDoor
