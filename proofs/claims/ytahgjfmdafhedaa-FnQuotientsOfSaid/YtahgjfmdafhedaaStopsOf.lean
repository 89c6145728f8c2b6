/- StopsOf of both. -/
import Derived.Test.YtahgjfmdafhedaaPeelOf
import Derived.Test.YtahgjfmdafhedaaLossesOf
namespace Go.Proofs.Ytahgjfmdafhedaa
open Go.RowKit Mat
set_option linter.unusedVariables false

/-- The sets below k, but that of none, that stop. -/
def StopsTo (checks : List (List Int)) : Nat → List Int → Prop
  | 0, out => out = []
  | k + 1, out => ∃ prev, StopsTo checks k prev ∧ (((1 ≤ k ∧ Stop checks k) ∧ out = prev ++ [(k : Int)]) ∨ (¬ (1 ≤ k ∧ Stop checks k) ∧ out = prev))
theorem StopsTo.one (checks : List (List Int)) : StopsTo checks 1 [] := ⟨[], rfl, .inr ⟨(fun h => absurd h.1 (by decide)), rfl⟩⟩
theorem StopsTo.unique {checks : List (List Int)} {k : Nat} : ∀ {a b : List Int}, StopsTo checks k a → StopsTo checks k b → a = b := by
  induction k with
  | zero => intro a b h h'; rw [show a = _ from h, show b = _ from h']
  | succ k ih =>
    rintro a b ⟨x, hx, h⟩ ⟨y, hy, h'⟩
    obtain rfl := ih hx hy
    rcases h with ⟨m, rfl⟩ | ⟨m, rfl⟩ <;> rcases h' with ⟨m', rfl⟩ | ⟨m', rfl⟩
    · rfl
    · exact absurd m m'
    · exact absurd m' m
    · rfl
theorem StopsTo.length {checks : List (List Int)} {k : Nat} : ∀ {a : List Int}, StopsTo checks k a → a.length ≤ k := by
  induction k with
  | zero => intro a h; rw [show a = _ from h]; simp
  | succ k ih =>
    rintro a ⟨x, hx, h⟩
    have := ih hx
    rcases h with ⟨m, rfl⟩ | ⟨m, rfl⟩
    · simp; omega
    · omega

/-- What StopsOf answers. -/
structure StopsR (p : Int) (rows : List (List Int)) (out : List Int) : Prop where
  yes : ValidC p rows → ∃ checks, NulC p rows checks ∧ StopsTo checks (2 ^ (gr rows 0).length) out
  no : ¬ ValidC p rows → out = []
theorem StopsR.unique {p : Int} {rows : List (List Int)} {a b : List Int} (h : StopsR p rows a) (h' : StopsR p rows b) : a = b := by
  by_cases c : ValidC p rows
  · obtain ⟨k, hk, ho⟩ := h.yes c
    obtain ⟨k', hk', ho'⟩ := h'.yes c
    obtain rfl := hk.unique hk'
    exact ho.unique ho'
  · rw [h.no c, h'.no c]
theorem StopsR.small {p : Int} {rows : List (List Int)} {a : List Int} (h : StopsR p rows a) : a.length ≤ 1048576 := by
  by_cases c : ValidC p rows
  · obtain ⟨k, hk, ho⟩ := h.yes c
    have := ho.length
    have := pow_lt c.few.2.2.2.1
    omega
  · rw [h.no c]; simp

end Go.Proofs.Ytahgjfmdafhedaa
