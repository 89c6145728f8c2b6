/- THE TIED CARD OF FnCodeText. -/
import Derived.Test.YtcdbeepphdfipaaGreatDoorLawCodeTextH
import Derived.Test.YtcdbeepphdfipaaGreatDoorCards
import Derived.Test.YtcdbeepphdfipaaGreatDoorTie
import Derived.SevenTiedAt
namespace Go.Proofs.YtcdbeepphdfipaaGreatDoor
open Go

theorem lawCodeTextCard_holds : Rows.FnCodeTextCardSaid :=
  Claim7.holds_tied_plain_at .later [] [.data, .data, .data, .data, .sentinel, .sentinel, .pinned] true (true, "d1f09fa06a3d1c4fd64bb7eba81537322636a064b9a89fc799f2562d12d12c4a") true
    lawCodeText_holds (fun _ h => by cases h) (by kernel_rfl) (fun _ h => by cases h) fnCodeText_row_tie rfl ⟨rfl, rfl⟩ (by kernel_rfl) rfl
    (fun f fn hf hfn => by
      obtain rfl : f = 4 := Option.some.inj ((show Tryz.prog.funcNamed "loop.example/lostshares/laws.FnCodeText" = some 4 by kernel_rfl).symm.trans hf) |>.symm
      obtain rfl : fn = Tryz.f4 := (Option.some.inj (Tryz.func4.symm.trans hfn)).symm
      exact ⟨by kernel_rfl, fun j t ht => by
        rw [Tryz.params4] at ht
        have hm : t ∈ [30] := by simpa using Array.mem_of_getElem? ht
        have hall : ([30].all fun u => !Tryz.prog.wantsStandIn u) = true := by kernel_rfl
        exact (show Tryz.prog.wantsStandIn t = false by simpa using List.all_eq_true.1 hall t hm)⟩)
    (by kernel_rfl)
#print axioms lawCodeTextCard_holds
end Go.Proofs.YtcdbeepphdfipaaGreatDoor
