/- THE TIED CARD OF FnRunDesk. -/
import Derived.Test.YtcdbeepphdfipaaGreatDoorLawD
import Derived.Test.YtcdbeepphdfipaaGreatDoorCards
import Derived.Test.YtcdbeepphdfipaaGreatDoorTie
import Derived.SevenTiedAt
namespace Go.Proofs.YtcdbeepphdfipaaGreatDoor
open Go

theorem lawRunDeskCard_holds : Rows.FnRunDeskCardSaid :=
  Claim7.holds_tied_plain_at .later [] [.data, .data, .data, .data, .sentinel, .sentinel, .pinned] true (true, "d1f09fa06a3d1c4fd64bb7eba81537322636a064b9a89fc799f2562d12d12c4a") true
    lawRunDesk_holds (fun _ h => by cases h) (by kernel_rfl) (fun _ h => by cases h) fnRunDesk_row_tie rfl ⟨rfl, rfl⟩ (by kernel_rfl) rfl
    (fun f fn hf hfn => by
      obtain rfl : f = 7 := Option.some.inj ((show Tryz.prog.funcNamed "loop.example/lostshares/laws.FnRunDesk" = some 7 by kernel_rfl).symm.trans hf) |>.symm
      obtain rfl : fn = Tryz.f7 := (Option.some.inj (Tryz.func7.symm.trans hfn)).symm
      exact ⟨by kernel_rfl, fun j t ht => by
        rw [Tryz.params7] at ht
        have hm : t ∈ [30] := by simpa using Array.mem_of_getElem? ht
        have hall : ([30].all fun u => !Tryz.prog.wantsStandIn u) = true := by kernel_rfl
        exact (show Tryz.prog.wantsStandIn t = false by simpa using List.all_eq_true.1 hall t hm)⟩)
    (by kernel_rfl)
#print axioms lawRunDeskCard_holds
end Go.Proofs.YtcdbeepphdfipaaGreatDoor
