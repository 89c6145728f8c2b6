/- What reduced rows of a table are, whoever reckons them. -/
import Derived.Test.YteoiaicpdmlecaaReduce
import Derived.Test.YteoiaicpdmlecaaTabA
import Derived.Test.YteoiaicpdmlecaaTabB
namespace Go.Proofs.Yteoiaicpdmlecaa
open Go.RowKit Mat
set_option linter.unusedVariables false

theorem prime_nat {p : Int} (h : prB p = true) : ∃ q : Nat, p = q ∧ Pr q := by
  rw [prB_iff] at h
  exact ⟨p.toNat, by omega, by unfold Pr; omega⟩

theorem vtB_pr {p : Int} {rows : List (List Int)} (h : vtB p rows = true) : prB p = true := by
  rw [vtB_iff] at h; exact prB_iff.2 h.1

theorem vtB_good {q : Nat} {rows : List (List Int)} (h : vtB q rows = true) : GoodRows q (gr rows 0).length rows := fun i hi => by
  rw [vtB_iff] at h
  have h1 := h.2.2.2 i hi
  exact ⟨h1.1, fun k hk => by have := h1.2 k (by omega); omega⟩

/-- out are the reduced rows of the table. -/
def RedOf (p : Int) (rows out : List (List Int)) : Prop := ∃ (q : Nat) (_ : NeZero q), p = q ∧ Pr q ∧ IsRed q (gr rows 0).length rows out

theorem RedOf.unique {p : Int} {rows A B : List (List Int)} (h : RedOf p rows A) (h' : RedOf p rows B) : A = B := by
  obtain ⟨q, i1, e1, hq, r1⟩ := h
  obtain ⟨q', i2, e2, hq', r2⟩ := h'
  obtain rfl : q = q' := by omega
  exact IsRed.unique hq r1 r2

/-- The reduced rows of a table, none of other rows. -/
def RedOr (p : Int) (rows out : List (List Int)) : Prop := (vtB p rows = false → out = []) ∧ (vtB p rows = true → RedOf p rows out)

theorem RedOr.unique {p : Int} {rows A B : List (List Int)} (h : RedOr p rows A) (h' : RedOr p rows B) : A = B := by
  cases hv : vtB p rows with
  | false => rw [h.1 hv, h'.1 hv]
  | true => exact (h.2 hv).unique (h'.2 hv)

theorem RedOf.bounds {p : Int} {rows out : List (List Int)} (h : RedOf p rows out) (hv : vtB p rows = true) : out.length ≤ 7 ∧ ∀ i, i < out.length → (gr out i).length = (gr rows 0).length ∧ (gr rows 0).length ≤ 7 := by
  obtain ⟨q, i1, e1, hq, r1⟩ := h
  have hn := (vtB_iff.1 hv).2.2.1
  have hl : ∀ i, i < out.length → ldN (gr out i) < 7 := fun i hi => by
    have := (lead_some (r1.inv.good i hi) (r1.inv.lead i hi)).1; omega
  refine ⟨?_, fun i hi => ⟨(r1.inv.good i hi).1, hn.2⟩⟩
  have key : ∀ i, i < out.length → i ≤ ldN (gr out i) := fun i => by
    induction i with
    | zero => intro _; exact Nat.zero_le _
    | succ i ih => intro hi; have := ih (by omega); have := r1.asc i (i + 1) (by omega) hi; omega
  apply Classical.byContradiction
  intro hc
  have := key 7 (by omega)
  have := hl 7 (by omega)
  omega

theorem RedOr.small {p : Int} {rows out : List (List Int)} (h : RedOr p rows out) : out.length ≤ 7 ∧ ∀ i, i < out.length → (gr out i).length ≤ 7 := by
  cases hv : vtB p rows with
  | false => rw [h.1 hv]; simp
  | true => have := (h.2 hv).bounds hv; exact ⟨this.1, fun i hi => by have := this.2 i hi; omega⟩

end Go.Proofs.Yteoiaicpdmlecaa
