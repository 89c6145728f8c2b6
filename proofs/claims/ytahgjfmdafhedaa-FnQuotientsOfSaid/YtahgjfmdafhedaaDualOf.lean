/- DualOf of both. -/
import Derived.Test.YtahgjfmdafhedaaNulk
import Derived.Test.YtahgjfmdafhedaaPlainOf
namespace Go.Proofs.Ytahgjfmdafhedaa
open Go.RowKit Mat
set_option linter.unusedVariables false

/-- It ends with a code of its own and an answer. -/
def GivesCB (w : World) (e : Ending) (w' : World) (Q : Int → List (List Int) → Bool → Prop) : Prop :=
  ∃ u vs out p ok, e = .returned (.tuple #[.agg #[.int .i64 p, u], .bool ok]) ∧ OwnR w' 23 3 u vs out ∧ FromR w.heap.size u vs out ∧ Q p out ok ∧ New w w'

/-- What DualOf answers. -/
structure DualQ (p : Int) (rows : List (List Int)) (p' : Int) (out : List (List Int)) (ok : Bool) : Prop where
  yes : ValidC p rows → ∃ checks, NulC p rows checks ∧ (inB checks.length 1 4 = true → p' = p ∧ out = checks ∧ ok = true) ∧ (inB checks.length 1 4 = false → p' = 0 ∧ out = [] ∧ ok = false)
  no : ¬ ValidC p rows → p' = 0 ∧ out = [] ∧ ok = false
theorem DualQ.unique {p : Int} {rows : List (List Int)} {p1 p2 : Int} {a b : List (List Int)} {x y : Bool} (h : DualQ p rows p1 a x) (h' : DualQ p rows p2 b y) : p1 = p2 ∧ a = b ∧ x = y := by
  by_cases c : ValidC p rows
  · obtain ⟨k, hk, h1, h2⟩ := h.yes c
    obtain ⟨k', hk', h1', h2'⟩ := h'.yes c
    obtain rfl := hk.unique hk'
    cases hb : inB k.length 1 4 with
    | true =>
      obtain ⟨rfl, rfl, rfl⟩ := h1 hb
      obtain ⟨rfl, rfl, rfl⟩ := h1' hb
      exact ⟨rfl, rfl, rfl⟩
    | false =>
      obtain ⟨rfl, rfl, rfl⟩ := h2 hb
      obtain ⟨rfl, rfl, rfl⟩ := h2' hb
      exact ⟨rfl, rfl, rfl⟩
  · obtain ⟨rfl, rfl, rfl⟩ := h.no c
    obtain ⟨rfl, rfl, rfl⟩ := h'.no c
    exact ⟨rfl, rfl, rfl⟩
theorem DualQ.small {p : Int} {rows : List (List Int)} {p1 : Int} {a : List (List Int)} {x : Bool} (h : DualQ p rows p1 a x) : a.length ≤ 1048576 ∧ ∀ i, i < a.length → (gr a i).length ≤ 1048576 := by
  by_cases c : ValidC p rows
  · obtain ⟨k, hk, h1, h2⟩ := h.yes c
    have hb := hk.bounds
    have h7 := c.few.2.2.2.1
    cases hb' : inB k.length 1 4 with
    | true =>
      rw [(h1 hb').2.1]
      exact ⟨by omega, fun i hi => by have := hb.2 i hi; omega⟩
    | false => rw [(h2 hb').2.1]; simp
  · rw [(h.no c).2.1]; simp

end Go.Proofs.Ytahgjfmdafhedaa
