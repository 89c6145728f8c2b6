/- THE TIED CARD OF FnExactParseCode. -/
import Derived.Test.YtcdbeepphdfipaaGreatDoorParseLaw
import Derived.Test.YtcdbeepphdfipaaGreatDoorCards
import Derived.Test.YtcdbeepphdfipaaGreatDoorTie
import Derived.SevenTiedAt
namespace Go.Proofs.YtcdbeepphdfipaaGreatDoor
open Go

theorem exactParseCodeCard_holds : Rows.FnExactParseCodeCardSaid :=
  Claim7.holds_tied_plain_at .later [] [.data, .data, .data, .data, .sentinel, .sentinel, .pinned] true (true, "d1f09fa06a3d1c4fd64bb7eba81537322636a064b9a89fc799f2562d12d12c4a") true
    exactParseCode_holds (fun _ h => by cases h) (by kernel_rfl) (fun _ h => by cases h) fnExactParseCode_row_tie rfl ⟨rfl, rfl⟩ (by kernel_rfl) rfl
    (fun f fn hf hfn => by
      obtain rfl : f = 3 := Option.some.inj ((show Tryz.prog.funcNamed "loop.example/lostshares/laws.FnExactParseCode" = some 3 by kernel_rfl).symm.trans hf) |>.symm
      obtain rfl : fn = Tryz.f3 := (Option.some.inj (Tryz.func3.symm.trans hfn)).symm
      exact ⟨by kernel_rfl, fun j t ht => by
        rw [Tryz.params3] at ht
        have hm : t ∈ [9] := by simpa using Array.mem_of_getElem? ht
        have hall : ([9].all fun u => !Tryz.prog.wantsStandIn u) = true := by kernel_rfl
        exact (show Tryz.prog.wantsStandIn t = false by simpa using List.all_eq_true.1 hall t hm)⟩)
    (by kernel_rfl)
#print axioms exactParseCodeCard_holds
end Go.Proofs.YtcdbeepphdfipaaGreatDoor
