/- Tables, as both programs tell them: plain functions on lists. -/
import Derived.Test.YteoiaicpdmlecaaLaw
import Derived.Test.YteoiaicpdmlecaaArith
namespace Go.Proofs.Yteoiaicpdmlecaa
set_option linter.unusedVariables false

/-- All numbers of a row are rests, and there are n of them. -/
def hasB (p : Int) (r : List Int) : Bool := r.all (fun x => inB x 0 (p - 1))
def rowOk (p : Int) (n : Nat) (r : List Int) : Bool := decide (r.length = n) && hasB p r

/-- Rows are a table. -/
def vtB (p : Int) (rows : List (List Int)) : Bool := prB p && inB rows.length 1 6 && inB (gr rows 0).length 1 7 && rows.all (rowOk p (gr rows 0).length)

theorem hasB_iff {p : Int} {r : List Int} : hasB p r = true ↔ ∀ i, i < r.length → 0 ≤ gi r i ∧ gi r i ≤ p - 1 := by
  unfold hasB
  rw [List.all_eq_true]
  constructor
  · intro h i hi
    have := h _ (List.getElem_mem hi)
    rw [inB_iff] at this
    rw [gi_lt hi]; exact this
  · intro h x hx
    obtain ⟨i, hi, rfl⟩ := List.getElem_of_mem hx
    have := h i hi
    rw [gi_lt hi] at this
    rw [inB_iff]; exact this

theorem rowOk_iff {p : Int} {n : Nat} {r : List Int} : rowOk p n r = true ↔ r.length = n ∧ ∀ i, i < r.length → 0 ≤ gi r i ∧ gi r i ≤ p - 1 := by
  unfold rowOk
  rw [Bool.and_eq_true, hasB_iff]; simp

theorem all_iff {rows : List (List Int)} {f : List Int → Bool} : rows.all f = true ↔ ∀ i, i < rows.length → f (gr rows i) = true := by
  rw [List.all_eq_true]
  constructor
  · intro h i hi; rw [gr_lt hi]; exact h _ (List.getElem_mem hi)
  · intro h x hx
    obtain ⟨i, hi, rfl⟩ := List.getElem_of_mem hx
    have := h i hi
    rw [gr_lt hi] at this; exact this

theorem all_false {rows : List (List Int)} {f : List Int → Bool} {i : Nat} (hi : i < rows.length) (h : f (gr rows i) = false) : rows.all f = false := by
  cases e : rows.all f with
  | false => rfl
  | true => rw [all_iff] at e; rw [e i hi] at h; cases h

theorem rowOk_len {p : Int} {n : Nat} {r : List Int} (h : r.length ≠ n) : rowOk p n r = false := by
  simp [rowOk, h]

theorem hasB_no {p : Int} {r : List Int} {i : Nat} (hi : i < r.length) (h : inB (gi r i) 0 (p - 1) = false) : hasB p r = false := by
  cases e : hasB p r with
  | false => rfl
  | true =>
    rw [hasB_iff] at e
    have := e i hi
    rw [inB_false] at h
    exact absurd this h

theorem rowOk_no {p : Int} {n : Nat} {r : List Int} {i : Nat} (hi : i < r.length) (h : inB (gi r i) 0 (p - 1) = false) : rowOk p n r = false := by
  simp [rowOk, hasB_no hi h]

theorem vtB_iff {p : Int} {rows : List (List Int)} : vtB p rows = true ↔ (p = 2 ∨ p = 3 ∨ p = 5 ∨ p = 7) ∧ (1 ≤ rows.length ∧ rows.length ≤ 6) ∧ (1 ≤ (gr rows 0).length ∧ (gr rows 0).length ≤ 7) ∧
    ∀ i, i < rows.length → (gr rows i).length = (gr rows 0).length ∧ ∀ k, k < (gr rows i).length → 0 ≤ gi (gr rows i) k ∧ gi (gr rows i) k ≤ p - 1 := by
  unfold vtB
  simp only [Bool.and_eq_true, prB_iff, inB_iff, all_iff, rowOk_iff]
  constructor
  · rintro ⟨⟨⟨h1, h2⟩, h3⟩, h4⟩; exact ⟨h1, by omega, by omega, h4⟩
  · rintro ⟨h1, h2, h3, h4⟩; exact ⟨⟨⟨h1, by omega⟩, by omega⟩, h4⟩

theorem vtB_p {p : Int} {rows : List (List Int)} (h : prB p = false) : vtB p rows = false := by simp [vtB, h]
theorem vtB_n {p : Int} {rows : List (List Int)} (h : inB rows.length 1 6 = false) : vtB p rows = false := by simp [vtB, h]
theorem vtB_m {p : Int} {rows : List (List Int)} (h : inB (gr rows 0).length 1 7 = false) : vtB p rows = false := by simp [vtB, h]
theorem vtB_r {p : Int} {rows : List (List Int)} {i : Nat} (hi : i < rows.length) (h : rowOk p (gr rows 0).length (gr rows i) = false) : vtB p rows = false := by simp [vtB, all_false hi h]
theorem vtB_mk {p : Int} {rows : List (List Int)} (h1 : prB p = true) (h2 : inB rows.length 1 6 = true) (h3 : inB (gr rows 0).length 1 7 = true) (h4 : ∀ i, i < rows.length → rowOk p (gr rows 0).length (gr rows i) = true) : vtB p rows = true := by
  simp [vtB, h1, h2, h3, all_iff.2 h4]
theorem rowOk_mk {p : Int} {n : Nat} {r : List Int} (h : r.length = n) (h2 : ∀ i, i < r.length → inB (gi r i) 0 (p - 1) = true) : rowOk p n r = true :=
  rowOk_iff.2 ⟨h, fun i hi => inB_iff.1 (h2 i hi)⟩
end Go.Proofs.Yteoiaicpdmlecaa
