/- LossesOf of both. -/
import Derived.Test.YtahgjfmdafhedaaIsBest
import Derived.Test.YtahgjfmdafhedaaEnco
namespace Go.Proofs.Ytahgjfmdafhedaa
open Go.RowKit Mat
set_option linter.unusedVariables false

/-- How many of the sets below k may be lost, by their sizes. -/
def LossTo (p : Int) (rows : List (List Int)) (n : Nat) : Nat → List Int → Prop
  | 0, out => out = List.replicate (n + 1) 0
  | k + 1, out => ∃ prev, LossTo p rows n k prev ∧ ((MendC p rows k ∧ out = prev.set (wtN k 7) (gi prev (wtN k 7) + 1)) ∨ (¬ MendC p rows k ∧ out = prev))

theorem LossTo.unique {p : Int} {rows : List (List Int)} {n k : Nat} : ∀ {a b : List Int}, LossTo p rows n k a → LossTo p rows n k b → a = b := by
  induction k with
  | zero => intro a b h h'; rw [show a = _ from h, show b = _ from h']
  | succ k ih =>
    rintro a b ⟨x, hx, h⟩ ⟨y, hy, h'⟩
    obtain rfl := ih hx hy
    rcases h with ⟨m, rfl⟩ | ⟨m, rfl⟩ <;> rcases h' with ⟨m', rfl⟩ | ⟨m', rfl⟩
    · rfl
    · exact absurd m m'
    · exact absurd m' m
    · rfl

theorem LossTo.bounds {p : Int} {rows : List (List Int)} {n k : Nat} : ∀ {a : List Int}, LossTo p rows n k a → a.length = n + 1 ∧ ∀ i, i < a.length → 0 ≤ gi a i ∧ gi a i ≤ k := by
  induction k with
  | zero => intro a h; rw [show a = _ from h]; exact ⟨by simp, fun i hi => by rw [gi_replicate]; omega⟩
  | succ k ih =>
    rintro a ⟨x, hx, h⟩
    have := ih hx
    rcases h with ⟨m, rfl⟩ | ⟨m, rfl⟩
    · refine ⟨by rw [List.length_set]; exact this.1, fun i hi => ?_⟩
      rw [List.length_set] at hi
      rw [gi_set hi]
      by_cases e : wtN k 7 = i
      · rw [if_pos e, e]; have := this.2 i hi; omega
      · rw [if_neg e]; have := this.2 i hi; omega
    · exact ⟨this.1, fun i hi => by have := this.2 i hi; omega⟩

/-- What LossesOf answers. -/
def LossR (p : Int) (rows : List (List Int)) (out : List Int) : Prop := (ValidC p rows → LossTo p rows (gr rows 0).length (2 ^ (gr rows 0).length) out) ∧ (¬ ValidC p rows → out = [])
theorem LossR.unique {p : Int} {rows : List (List Int)} {a b : List Int} (h : LossR p rows a) (h' : LossR p rows b) : a = b := by
  by_cases c : ValidC p rows
  · exact (h.1 c).unique (h'.1 c)
  · rw [h.2 c, h'.2 c]
theorem LossR.small {p : Int} {rows : List (List Int)} {a : List Int} (h : LossR p rows a) : a.length ≤ 1048576 := by
  by_cases c : ValidC p rows
  · rw [(h.1 c).bounds.1]; have := c.few; omega
  · rw [h.2 c]; simp

end Go.Proofs.Ytahgjfmdafhedaa
