/- From what the row's form hands over: bytes that came in. -/
import Derived.Test.YtcdbeepphdfipaaGreatDoorLawK
import Derived.Test.YtcdbeepphdfipaaGreatDoorGens
import Derived.Lib.SmallJoins
namespace Go.Proofs.YtcdbeepphdfipaaGreatDoor
open Go.ChangeShapes Go.WideShapes Go.ChangeAt Go.RowKit
set_option linter.unusedVariables false

theorem cellsByte : Tryz.prog.cellsOf 5 = 1 := by kernel_rfl
section
variable {H : Type} {enc : TypeId × Value → H} {w : World} {base : Nat} {held : Bool}
/-- A slice of bytes that came in. -/
theorem rawB_of_trod {fuel : Nat} {ao : Option Addr} {len cap : Nat} {x : DataW H × List MemPlace}
    (h : DataW.trod enc Tryz.prog w base (fun _ => true) held fuel 30 (Value.slice ao len cap).cells.toList = some x) : RawB w (.slice ao len cap) len := by
  rcases open_ints Tryz.underlying30 Tryz.underlying5 cellsByte h with ⟨hcs, _⟩ | ⟨a, len', cap', zs, hcs, _, hl, hm, hz, _, hcell, hwf⟩
  · simp [Value.cells] at hcs
    obtain ⟨rfl, rfl, rfl⟩ := hcs
    exact ⟨none, 0, rfl, by simp, by simp [maxLen], fun i hi => by simp at hi⟩
  · simp [Value.cells] at hcs
    obtain ⟨rfl, rfl, rfl⟩ := hcs
    rw [if_pos rfl] at hz
    refine ⟨some a, cap, rfl, hl, hm, fun i hi => ?_⟩
    obtain ⟨b, o, sp⟩ := a
    have h0 := hcell i (by omega)
    have hsp : sp = none := by
      have h1 := hcell 0 (by omega)
      simpa [Addr.add] using World.cell?_spot h1
    subst hsp
    rw [Addr.add_lit] at h0
    have hw := hwf (zs.getD i 0) (by
      have : zs.getD i 0 = zs[i]'(by omega) := by simp [show i < zs.length by omega]
      rw [this]; exact List.getElem_mem _)
    have hr : 0 ≤ zs.getD i 0 ∧ zs.getD i 0 ≤ 255 := by
      revert hw
      generalize zs.getD i 0 = z
      intro hw
      simp only [Lit.wf, Bool.and_eq_true, decide_eq_true_eq] at hw
      exact ⟨Int.le_trans (by decide) hw.1, Int.le_trans hw.2 (by decide)⟩
    exact ⟨b, o, _, World.block_lt_of_cell? w _ h0, rfl, h0, hr⟩
end
end Go.Proofs.YtcdbeepphdfipaaGreatDoor
