/- THE TIED CARD OF FnExactCodeText. -/
import Derived.Test.YtcdbeepphdfipaaDoorCodeTextLaw
import Derived.Test.YtcdbeepphdfipaaDoorCards
import Derived.Test.YtcdbeepphdfipaaDoorTie
import Derived.SevenTiedAt
namespace Go.Proofs.YtcdbeepphdfipaaDoor
open Go

theorem exactCodeTextCard_holds : Rows.FnExactCodeTextCardSaid :=
  Claim7.holds_tied_plain_at .later [] [.data, .data, .data] true (true, "ec280c1edc5abb4960150ce69a83ea42755dacffb4a074c0b5057b667e8523ba") false
    exactCodeText_holds (fun _ h => by cases h) (by kernel_rfl) (fun _ h => by cases h) fnExactCodeText_row_tie rfl ⟨rfl, rfl⟩ (by kernel_rfl) rfl
    (fun f fn hf hfn => by
      obtain rfl : f = 3 := Option.some.inj ((show Tryd.prog.funcNamed "loop.example/lostshares/laws.FnExactCodeText" = some 3 by kernel_rfl).symm.trans hf) |>.symm
      obtain rfl : fn = Tryd.f3 := (Option.some.inj (Tryd.func3.symm.trans hfn)).symm
      exact ⟨by kernel_rfl, fun j t ht => by
        rw [Tryd.params3] at ht
        have hm : t ∈ [24] := by simpa using Array.mem_of_getElem? ht
        have hall : ([24].all fun u => !Tryd.prog.wantsStandIn u) = true := by kernel_rfl
        exact (show Tryd.prog.wantsStandIn t = false by simpa using List.all_eq_true.1 hall t hm)⟩)
    (by kernel_rfl)
#print axioms exactCodeTextCard_holds
end Go.Proofs.YtcdbeepphdfipaaDoor
