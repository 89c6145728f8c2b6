/- How many messages have words of each weight. Plain. -/
import Derived.Test.YtgpmkbenjlhfhaaPlaM
import Derived.Test.YtgpmkbenjlhfhaaHelp
import Derived.Test.YtgpmkbenjlhfhaaEnco
namespace Go.Proofs.Ytgpmkbenjlhfhaa
open Go.RowKit Mat
set_option linter.unusedVariables false

/-- The word of the t-th message. -/
def wordT (q n : Nat) (rows : List (List Int)) (t : Nat) : List Int := encZ q n rows (msg q rows.length t) rows.length
/-- Its weight. -/
def wtT (q n : Nat) (rows : List (List Int)) (t : Nat) : Nat := hvTo (wordT q n rows t) n
theorem wordT_length (q n : Nat) (rows : List (List Int)) (t : Nat) : (wordT q n rows t).length = n := encZ_length _ _ _ _ _
theorem wtT_le (q n : Nat) (rows : List (List Int)) (t : Nat) : wtT q n rows t ≤ n := hvTo_le _ _
def bump (l : List Int) (i : Nat) : List Int := l.set i (gi l i + 1)
theorem bump_length (l : List Int) (i : Nat) : (bump l i).length = l.length := List.length_set
theorem bump_get {l : List Int} {i j : Nat} (hj : j < l.length) : gi (bump l i) j = if i = j then gi l i + 1 else gi l j := by
  unfold bump
  rw [gi_lt (by rw [List.length_set]; exact hj), List.getElem_set]
  split
  · rfl
  · rw [gi_lt hj]
/-- The counts of the first t messages. -/
def wtsTo (q n : Nat) (rows : List (List Int)) : Nat → List Int
  | 0 => List.replicate (n + 1) 0
  | t + 1 => bump (wtsTo q n rows t) (wtT q n rows t)
theorem wtsTo_length (q n : Nat) (rows : List (List Int)) : ∀ t, (wtsTo q n rows t).length = n + 1
  | 0 => by simp [wtsTo]
  | t + 1 => by rw [wtsTo, bump_length, wtsTo_length q n rows t]
theorem wtsTo_range (q n : Nat) (rows : List (List Int)) : ∀ t i, i < n + 1 → 0 ≤ gi (wtsTo q n rows t) i ∧ gi (wtsTo q n rows t) i ≤ t
  | 0, i, hi => by rw [wtsTo, gi_replicate]; simp
  | t + 1, i, hi => by
    have h := wtsTo_range q n rows t
    have h1 := h i hi
    have h2 := h (wtT q n rows t) (by have := wtT_le q n rows t; omega)
    rw [wtsTo, bump_get (by rw [wtsTo_length]; exact hi)]
    split <;> omega

/-- What WeightsOf answers. -/
def WtsR (p : Int) (rows : List (List Int)) (out : List Int) : Prop :=
  (ValidC p rows → out = wtsTo p.toNat (gr rows 0).length rows (p.toNat ^ rows.length)) ∧ (¬ ValidC p rows → out = [])
theorem WtsR.unique {p : Int} {rows : List (List Int)} {a b : List Int} (h : WtsR p rows a) (h' : WtsR p rows b) : a = b := by
  by_cases c : ValidC p rows
  · rw [h.1 c, h'.1 c]
  · rw [h.2 c, h'.2 c]
theorem WtsR.small {p : Int} {rows : List (List Int)} {a : List Int} (h : WtsR p rows a) : a.length ≤ 1048576 := by
  by_cases c : ValidC p rows
  · rw [h.1 c, wtsTo_length]; have := c.few; omega
  · rw [h.2 c]; simp
theorem pow_all {q k : Nat} (hq : q ≤ 7) (hk : k ≤ 4) : q ^ k ≤ 2401 :=
  Nat.le_trans (Nat.pow_le_pow_left hq k) (Nat.pow_le_pow_right (by omega) hk : 7 ^ k ≤ 7 ^ 4)
end Go.Proofs.Ytgpmkbenjlhfhaa
