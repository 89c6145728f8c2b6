/- What CodeText returns. -/
import Derived.Test.YtcdbeepphdfipaaGreatDoorTxt
import Derived.Test.YtcdbeepphdfipaaGreatDoorKnow
namespace Go.Proofs.YtcdbeepphdfipaaGreatDoor
set_option linter.unusedVariables false

/-- What CodeText returns. -/
def TxtR (p : Int) (rows : List (List Int)) (s : ByteArray) : Prop := (ValidC p rows → s = bs (codeT p rows)) ∧ (¬ ValidC p rows → s = bs [])
theorem TxtR.unique {p : Int} {rows : List (List Int)} {a b : ByteArray} (h : TxtR p rows a) (h' : TxtR p rows b) : a = b := by
  by_cases c : ValidC p rows
  · rw [h.1 c, h'.1 c]
  · rw [h.2 c, h'.2 c]

theorem ValidC.digs {p : Int} {rows : List (List Int)} (h : ValidC p rows) : (0 ≤ p ∧ p ≤ 9) ∧ (∀ i k, i < rows.length → k < (gr rows i).length → 0 ≤ gi (gr rows i) k ∧ gi (gr rows i) k ≤ 9) ∧ 1 ≤ rows.length ∧ rows.length ≤ 6 ∧ ∀ i, i < rows.length → (gr rows i).length ≤ 7 := by
  obtain ⟨h1, h2, h3, h4⟩ := vtB_iff.1 h.1
  refine ⟨by omega, fun i k hi hk => ?_, h2.1, h2.2, fun i hi => by rw [(h4 i hi).1]; exact h3.2⟩
  have := (h4 i hi).2 k hk
  omega

theorem rowsTo_le {rows : List (List Int)} (h7 : ∀ i, i < rows.length → (gr rows i).length ≤ 7) : ∀ k, k ≤ rows.length → (rowsTo rows k).length ≤ 8 * k
  | 0, _ => by simp [rowsTo]
  | k + 1, h => by
    have h1 := rowsTo_le h7 k (by omega)
    have h2 := h7 k (by omega)
    have h3 : (if k = 0 then ([] : List UInt8) else [47]).length ≤ 1 := by split <;> simp
    rw [rowsTo, List.length_append, List.length_append, rowT, List.length_map]
    omega
end Go.Proofs.YtcdbeepphdfipaaGreatDoor
