/- The generators' codes that may be invalid. -/
import Derived.Test.YtahgjfmdafhedaaGenS
import Derived.Test.YtahgjfmdafhedaaStay
import Derived.Deep.RegionHeld3
namespace Go.Proofs.Ytahgjfmdafhedaa
open Go.RowKit
set_option linter.unusedVariables false

/-- Rows, few, with some numbers each. -/
def RowsK (out : List (List Int)) : Prop := (1 ≤ out.length ∧ out.length ≤ 8) ∧ ∀ i, i < out.length → 1 ≤ (gr out i).length ∧ (gr out i).length ≤ 8
/-- It ends with a code of its own, that may be invalid, and the reader has gone on. -/
def PicksK (g N : Nat) (w : World) (e : Ending) (w' : World) : Prop :=
  ∃ a l c vs out p, e = .returned (.agg #[.int .i64 p, .slice a l c]) ∧ OwnR w' 23 3 (.slice a l c) vs out ∧ FromR w.heap.size (.slice a l c) vs out ∧ RowsK out ∧ (0 ≤ p ∧ p ≤ 7) ∧ Rd w' g N ∧ Chg (· = g) w w'

theorem picksK_done {w w8 : World} {g N M l c : Nat} {a : Option Addr} {vs : List Value} {out : List (List Int)} {p : Int} {x y : Value} (hg : g < w.heap.size) (ho : OwnR w8 23 3 (.slice a l c) vs out) (hf : FromR w.heap.size (.slice a l c) vs out) (hq : RowsK out) (hp : 0 ≤ p ∧ p ≤ 7) (hr : Rd w8 g M) (hM : M ≤ N) (hc : Chg (· = g) w w8) (ha : Blk2 w8 w.heap.size x y 28) :
    PicksK g N w (.returned (.agg #[.int .i64 p, .slice a l c])) ((w8.setCell ⟨w.heap.size, 0, none⟩ (.int .i64 p)).setCell ⟨w.heap.size, 1, none⟩ (.slice a l c)) := by
  obtain ⟨x0, x1, hx⟩ := ha.put (.int .i64 p) (.slice a l c)
  exact ⟨a, l, c, vs, out, p, rfl, ho.chg hx (own_ne_blk2 ho.outer ha (by decide)) (fun i hi => own_ne_blk2 (ho.inner i hi) ha (by decide)), hf, hq, hp, (hr.chg hx (fun b hb => by omega)).mono hM, Chg.trans hc hx (fun _ _ x => x) (fun i hi h => by omega)⟩

end Go.Proofs.Ytahgjfmdafhedaa
