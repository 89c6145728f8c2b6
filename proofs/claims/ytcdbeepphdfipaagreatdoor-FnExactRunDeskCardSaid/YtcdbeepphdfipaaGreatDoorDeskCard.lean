/- THE TIED CARD OF FnExactRunDesk. -/
import Derived.Test.YtcdbeepphdfipaaGreatDoorDeskLaw
import Derived.Test.YtcdbeepphdfipaaGreatDoorCards
import Derived.Test.YtcdbeepphdfipaaGreatDoorTie
import Derived.SevenTiedAt
namespace Go.Proofs.YtcdbeepphdfipaaGreatDoor
open Go

theorem exactRunDeskCard_holds : Rows.FnExactRunDeskCardSaid :=
  Claim7.holds_tied_plain_at .later [] [.data, .data, .data, .data, .sentinel, .sentinel, .pinned] true (true, "d1f09fa06a3d1c4fd64bb7eba81537322636a064b9a89fc799f2562d12d12c4a") true
    exactRunDesk_holds (fun _ h => by cases h) (by kernel_rfl) (fun _ h => by cases h) fnExactRunDesk_row_tie rfl ⟨rfl, rfl⟩ (by kernel_rfl) rfl
    (fun f fn hf hfn => by
      obtain rfl : f = 6 := Option.some.inj ((show Tryz.prog.funcNamed "loop.example/lostshares/laws.FnExactRunDesk" = some 6 by kernel_rfl).symm.trans hf) |>.symm
      obtain rfl : fn = Tryz.f6 := (Option.some.inj (Tryz.func6.symm.trans hfn)).symm
      exact ⟨by kernel_rfl, fun j t ht => by
        rw [Tryz.params6] at ht
        have hm : t ∈ [36] := by simpa using Array.mem_of_getElem? ht
        have hall : ([36].all fun u => !Tryz.prog.wantsStandIn u) = true := by kernel_rfl
        exact (show Tryz.prog.wantsStandIn t = false by simpa using List.all_eq_true.1 hall t hm)⟩)
    (by kernel_rfl)
#print axioms exactRunDeskCard_holds
end Go.Proofs.YtcdbeepphdfipaaGreatDoor
