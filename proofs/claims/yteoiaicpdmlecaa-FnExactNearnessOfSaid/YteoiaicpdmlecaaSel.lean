/- The columns of a set. -/
import Derived.Test.YteoiaicpdmlecaaSetA
import Derived.Test.YteoiaicpdmlecaaCopy
import Derived.Test.YteoiaicpdmlecaaKnown
namespace Go.Proofs.Yteoiaicpdmlecaa
open Go.RowKit Mat
set_option linter.unusedVariables false

/-- Of the first k numbers of a row those in a set. -/
def selTo (s : Nat) (row : List Int) : Nat → List Int
  | 0 => []
  | k + 1 => if bitN s k = 1 then selTo s row k ++ [gi row k] else selTo s row k
/-- The numbers of a row in a set. -/
def sel (s : Nat) (row : List Int) : List Int := selTo s row row.length

theorem selTo_length (s : Nat) (row : List Int) (k : Nat) : (selTo s row k).length = wtN s k := by
  induction k with
  | zero => rfl
  | succ k ih =>
    have hb : bitN s k = 0 ∨ bitN s k = 1 := by unfold bitN; omega
    rcases hb with h | h
    · simp [selTo, wtN, h, ih]
    · simp [selTo, wtN, h, ih]

theorem wtN_le (s k : Nat) : wtN s k ≤ k := by
  induction k with
  | zero => simp [wtN]
  | succ k ih => have : bitN s k ≤ 1 := by unfold bitN; omega
                 simp only [wtN]; omega

theorem gi_snoc {xs : List Int} {x : Int} {i : Nat} : gi (xs ++ [x]) i = if i < xs.length then gi xs i else if i = xs.length then x else gi (xs ++ [x]) i := by
  by_cases h : i < xs.length
  · rw [if_pos h, gi_lt (by simp; omega), gi_lt h, List.getElem_append_left h]
  · rw [if_neg h]
    by_cases e : i = xs.length
    · rw [if_pos e]; subst e; rw [gi_lt (by simp)]; simp
    · rw [if_neg e]

theorem selTo_range {p : Int} (s : Nat) {row : List Int} {k : Nat} (h : ∀ i, i < k → 0 ≤ gi row i ∧ gi row i < p) : ∀ i, i < (selTo s row k).length → 0 ≤ gi (selTo s row k) i ∧ gi (selTo s row k) i < p := by
  induction k with
  | zero => intro i hi; simp [selTo] at hi
  | succ k ih =>
    have ih' := ih (fun i hi => h i (by omega))
    intro i hi
    unfold selTo at hi ⊢
    by_cases hb : bitN s k = 1
    · rw [if_pos hb] at hi ⊢
      rw [List.length_append, List.length_singleton] at hi
      rw [gi_snoc]
      by_cases c : i < (selTo s row k).length
      · rw [if_pos c]; exact ih' i c
      · rw [if_neg c, if_pos (by omega)]; exact h k (by omega)
    · rw [if_neg hb] at hi ⊢; exact ih' i hi

theorem sel_good {p : Int} {n : Nat} (s : Nat) {row : List Int} (h : GoodRow p n row) : GoodRow p (wtN s n) (sel s row) := by
  refine ⟨by unfold sel; rw [selTo_length, h.1], fun i hi => ?_⟩
  have hl : i < (selTo s row row.length).length := by rw [selTo_length, h.1]; exact hi
  exact selTo_range s (by rw [h.1]; exact h.2) i hl

theorem selRows_good {p : Int} {n : Nat} (s : Nat) {rows : List (List Int)} (h : GoodRows p n rows) : GoodRows p (wtN s n) (rows.map (sel s)) := fun i hi => by
  rw [List.length_map] at hi
  rw [gr_lt (by rw [List.length_map]; exact hi), List.getElem_map]
  have := h i hi
  rw [gr_lt hi] at this
  exact sel_good s this
end Go.Proofs.Yteoiaicpdmlecaa
