/- The generators' table: some rows of its own. -/
import Derived.Test.YtahgjfmdafhedaaGenT
namespace Go.Proofs.Ytahgjfmdafhedaa
open Go.RowKit
set_option linter.unusedVariables false

/-- A row of one's own is laid behind the others, while the reader has gone on. -/
theorem rows_more {w wz w1 w2 : World} {g N : Nat} {v u v2 : Value} {vs : List Value} {rows : List (List Int)} {xs : List Int} (hg : g < w.heap.size) (hO : OwnR wz 23 3 v vs rows) (hF : FromR w.heap.size v vs rows)
    (hC : Chg (· = g) w wz) (hC1 : Chg (· = g) wz w1) (hu : Own w1 3 u (xs.map (Value.int .i64))) (hfu : From wz.heap.size u) (hR : Rd w1 g N)
    (k1 : Own w2 23 v2 (vs ++ [u])) (k2 : Chg (fun k => v.ownBlock = some k) w1 w2) (k3 : ∀ g', v2.ownBlock = some g' → v.ownBlock = some g' ∨ w1.heap.size ≤ g') :
    OwnR w2 23 3 v2 (vs ++ [u]) (rows ++ [xs]) ∧ FromR w.heap.size v2 (vs ++ [u]) (rows ++ [xs]) ∧ Rd w2 g N ∧ Chg (· = g) w w2 := by
  have hO1 := hO.chg hC1 (fun g' h e => by have := hF.1 g' h; omega) (fun i hi g' h e => by have := hF.2 i hi g' h; omega)
  exact ⟨hO1.push' hu (fun i hi => From.apart hfu (hO.inner i hi)) k1 k2, hF.push hO.len (hfu.mono hC.size) k3 (Nat.le_trans hC.size hC1.size), hR.chg k2 (fun k hk => by have := hF.1 k hk; omega),
    Chg.trans (Chg.trans hC hC1 (fun _ _ x => x) (fun _ _ x => x)) k2 (fun _ _ x => x) (fun i hi h => by have := hF.1 i h; omega)⟩

end Go.Proofs.Ytahgjfmdafhedaa
