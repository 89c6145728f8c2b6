/- The generators of tables. -/
import Derived.Test.YtahgjfmdafhedaaGenA
namespace Go.Proofs.Ytahgjfmdafhedaa
open Go.RowKit
set_option linter.unusedVariables false

/-- Bytes that came in. -/
def RawB (w : World) (v : Value) (n : Nat) : Prop := IsB w w.heap.size v n

set_option maxHeartbeats 1000000 in
theorem newReader_any (v : Value) (n : Nat) (w : World) (hb : RawB w v n) :
    Calls Try.prog 31 #[v] w fun e w' => e = .returned (.pointer (some ⟨w.heap.size, 0, none⟩)) ∧ Rd w' w.heap.size 0 ∧ New w w' := by
  obtain ⟨ao, cap, rfl, hcap, hmx, hcell⟩ := hb
  have hm := hmx
  unfold maxLen at hm
  have HC := Lib.hid hcell
  have HM := Lib.hid hmx
  clear hcell hmx
  by_cases hn : 2000 < n
  · have h2000 : 2000 ≤ cap := by omega
    go_enter Try.func31, Try.ntmps31
    go_wp2_with fail
    go_ret
    exact ⟨rfl, ⟨.slice ao 2000 cap, 0, 2000, Blk2.alloc w _ _ _, Nat.le_refl _, Nat.le_refl _, ⟨ao, cap, rfl, h2000, HM.out, fun i hi => by
      obtain ⟨b, o, x, hb, e, hc, hx⟩ := HC.out i (by omega)
      exact ⟨b, o, x, hb, e, (New.alloc w _).cellNew hc, hx⟩⟩⟩, New.alloc _ _⟩
  · go_enter Try.func31, Try.ntmps31
    go_wp2_with fail
    go_ret
    exact ⟨rfl, ⟨.slice ao n cap, 0, n, Blk2.alloc w _ _ _, Nat.le_refl _, by omega, ⟨ao, cap, rfl, hcap, HM.out, fun i hi => by
      obtain ⟨b, o, x, hb, e, hc, hx⟩ := HC.out i hi
      exact ⟨b, o, x, hb, e, (New.alloc w _).cellNew hc, hx⟩⟩⟩, New.alloc _ _⟩

/-- What has turned in blocks that are newer has not turned what was there. -/
theorem New.of_chg {S : Nat → Prop} {w w1 w2 : World} (h : New w w1) (hc : Chg S w1 w2) (hS : ∀ k, S k → w.heap.size ≤ k) : New w w2 := h.then hc hS

/-- It ends with a number and rows of its own, few. -/
def DrawsT (w : World) (e : Ending) (w' : World) : Prop := ∃ (p : Int) (u : Value) (rows : List (List Int)), e = .returned (.tuple #[.int .i64 p, u]) ∧ (-1 ≤ p ∧ p ≤ 11) ∧ IsR w' u rows ∧ (rows.length ≤ 100 ∧ ∀ i, i < rows.length → (gr rows i).length ≤ 7) ∧ New w w'

end Go.Proofs.Ytahgjfmdafhedaa
