/- From what the row's form hands over to what the walks ask: rows of numbers that came in. -/
import Derived.Test.YteoiaicpdmlecaaLawA
import Derived.ProofKit
import Derived.OpenShut
import Derived.ShutString
import Derived.ChangeOld
import Derived.Below
import Derived.Deep.Matrix
namespace Go.Proofs.Yteoiaicpdmlecaa
open Go.ChangeShapes Go.WideShapes Go.ChangeAt Go.RowKit
set_option linter.unusedVariables false

theorem own : ownKnob Try.prog.godebug = none := by kernel_rfl
theorem laidOut : laidOutB Try.prog = true := by kernel_rfl
theorem cellsInt : Try.prog.cellsOf 3 = 1 := by kernel_rfl
theorem cellsRow : Try.prog.cellsOf 31 = 1 := by kernel_rfl

theorem Addr.spot_none {w : World} {a : Addr} {n : Nat} {v : Value} (h : w.cell? (a.add n) = some v) (hn : n = 0 ∨ a.spot = none) : a.spot = none := by
  rcases hn with rfl | h'
  · simpa [Addr.add] using World.cell?_spot h
  · exact h'

/-- A slice of numbers that came in. -/
theorem rawI_of_cells {w : World} {ao : Option Addr} {n cap : Nat} {xs : List Int} (hl : xs.length = n) (hle : n ≤ cap) (hnil : ao = none → cap = 0) (hm : cap ≤ maxLen)
    (h : ∀ a, ao = some a → ∀ i, i < n → w.cell? (a.add i) = some (.int .i64 (gi xs i))) : RawI w (.slice ao n cap) xs := by
  refine ⟨ao, cap, by rw [hl], ⟨by omega, hnil⟩, hm, fun i hi => ?_⟩
  cases ao with
  | none => have := hnil rfl; omega
  | some a =>
    obtain ⟨b, o, sp⟩ := a
    have h0 := h _ rfl 0 (by omega)
    have : sp = none := by simpa [Addr.add] using World.cell?_spot h0
    subst this
    have := h _ rfl i (by omega)
    rw [Addr.add_lit] at this
    exact ⟨b, o, rfl, this⟩

section
variable {H : Type} {enc : TypeId × Value → H} {w : World} {base : Nat} {held : Bool}

theorem rawR_of_trod {fuel : Nat} {ao : Option Addr} {len cap : Nat} {x : DataW H × List MemPlace}
    (h : DataW.trod enc Try.prog w base (fun _ => true) held fuel 22 (Value.slice ao len cap).cells.toList = some x) : ∃ rows, RawR w (.slice ao len cap) rows := by
  rcases Deep.open_int_rows Try.underlying22 Try.underlying31 Try.underlying3 cellsRow cellsInt h with ⟨hcs, _⟩ | ⟨a, len', cap', A, L, C, Z, hcs, _, hl, hm, _, hrows⟩
  · simp [Value.cells] at hcs
    obtain ⟨rfl, rfl, rfl⟩ := hcs
    exact ⟨[], none, 0, rfl, by simp, by simp [maxLen], fun i hi => by simp at hi⟩
  · simp [Value.cells] at hcs
    obtain ⟨rfl, rfl, rfl⟩ := hcs
    refine ⟨(List.range len).map (fun r => (Z r).take (L r)), some a, cap, by simp, ⟨by simpa using hl, by simp⟩, hm, fun i hi => ?_⟩
    simp at hi
    obtain ⟨b, o, sp⟩ := a
    have h0 := (hrows 0 (by omega)).1
    have : sp = none := by simpa [Addr.add] using World.cell?_spot h0
    subst this
    obtain ⟨hc, h1, h2, h3, _, h5, h6⟩ := hrows i (by omega)
    rw [Addr.add_lit] at hc
    refine ⟨b, o, _, rfl, hc, ?_⟩
    rw [gr_lt (by simpa using hi)]
    simp only [List.getElem_map, List.getElem_range]
    refine rawI_of_cells (by simp; omega) h1 h5 h2 (fun a' ha' j hj => ?_)
    rw [(h6 a' ha').2 j (by omega)]
    simp [gi, hj]

/-- A slice of numbers that came in. -/
theorem rawI_of_trod {fuel : Nat} {ao : Option Addr} {len cap : Nat} {x : DataW H × List MemPlace}
    (h : DataW.trod enc Try.prog w base (fun _ => true) held fuel 31 (Value.slice ao len cap).cells.toList = some x) : ∃ xs, RawI w (.slice ao len cap) xs := by
  rcases open_ints Try.underlying31 Try.underlying3 cellsInt h with ⟨hcs, _⟩ | ⟨a, len', cap', zs, hcs, _, hl, hm, hz, _, hcell, _⟩
  · simp [Value.cells] at hcs
    obtain ⟨rfl, rfl, rfl⟩ := hcs
    exact ⟨[], none, 0, rfl, by simp, by simp [maxLen], fun i hi => by simp at hi⟩
  · simp [Value.cells] at hcs
    obtain ⟨rfl, rfl, rfl⟩ := hcs
    rw [if_pos rfl] at hz
    refine ⟨zs.take len, rawI_of_cells (by simp; omega) hl (by simp) hm (fun a' ha' i hi => ?_)⟩
    obtain rfl := Option.some.inj ha'
    rw [hcell i (by omega)]
    simp [gi, hi]

/-- A field that is a slice of rows. -/
theorem rawR_of_cell {fuel : Nat} {v : Value} {x : DataW H × List MemPlace}
    (h : DataW.trod enc Try.prog w base (fun _ => true) held fuel 22 [v] = some x) : ∃ rows, RawR w v rows := by
  rcases Deep.open_int_rows Try.underlying22 Try.underlying31 Try.underlying3 cellsRow cellsInt h with ⟨hcs, _⟩ | ⟨a, len', cap', A, L, C, Z, hcs, _⟩
  · simp only [List.cons.injEq, and_true] at hcs
    subst hcs
    exact rawR_of_trod (fuel := fuel) (x := x) h
  · simp only [List.cons.injEq, and_true] at hcs
    subst hcs
    exact rawR_of_trod (fuel := fuel) (x := x) h
end
end Go.Proofs.Yteoiaicpdmlecaa
