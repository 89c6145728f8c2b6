/- What the laws on tables say of ranks and of factors. Plain. -/
import Derived.Test.YtgpmkbenjlhfhaaPlaM
namespace Go.Proofs.Ytgpmkbenjlhfhaa
open Go.RowKit Mat
set_option linter.unusedVariables false

section
variable {p : Nat} [NeZero p]

theorem rank_of_ind (hp : Pr p) {n : Nat} {rows out : List (List Int)} (h : IsRed p n rows out) (hi : Ind (mat p rows) rows.length) : out.length = rows.length := by
  have h1 := dim_le hp (fun i hi => h.row_in hi) hi
  have h2 := h.le_rows hp
  omega
theorem IsRed.span_eq {n : Nat} {R R' A : List (List Int)} (h : IsRed p n R A) (hs : ∀ v, Span (mat p R) R.length v ↔ Span (mat p R') R'.length v) : IsRed p n R' A :=
  ⟨⟨h.inv.good, h.inv.lead, h.inv.rr, fun v => (hs v).symm.trans (h.inv.span v)⟩, h.asc⟩

theorem span_snoc_up {R : List (List Int)} {x : List Int} {v : Nat → Fin p} (h : Span (mat p R) R.length v) : Span (mat p (R ++ [x])) (R ++ [x]).length v := by
  refine h.mono (fun i hi => ?_)
  have := Span.row (mat p (R ++ [x])) (m := (R ++ [x]).length) (i := i) (by rw [List.length_append]; simp; omega)
  exact this.congr (fun k => by show vec p (gr R i) k = vec p (gr (R ++ [x]) i) k; rw [gr_snoc_lt hi])
theorem span_snoc_last (R : List (List Int)) (x : List Int) : Span (mat p (R ++ [x])) (R ++ [x]).length (vec p x) := by
  have := Span.row (mat p (R ++ [x])) (m := (R ++ [x]).length) (i := R.length) (by rw [List.length_append]; simp)
  exact this.congr (fun k => by show vec p x k = vec p (gr (R ++ [x]) R.length) k; rw [gr_snoc_eq rfl])
theorem span_snoc_down {R : List (List Int)} {x : List Int} (hx : Span (mat p R) R.length (vec p x)) {v : Nat → Fin p} (h : Span (mat p (R ++ [x])) (R ++ [x]).length v) : Span (mat p R) R.length v := by
  refine h.mono (fun i hi => ?_)
  rw [List.length_append, List.length_singleton] at hi
  by_cases e : i < R.length
  · exact (Span.row (mat p R) e).congr (fun k => by show vec p (gr (R ++ [x]) i) k = vec p (gr R i) k; rw [gr_snoc_lt e])
  · exact hx.congr (fun k => by show vec p (gr (R ++ [x]) i) k = vec p x k; rw [gr_snoc_eq (by omega)])

/-- A goal raises the rank just if it is no sum of the rows. -/
theorem rank_more (hp : Pr p) {n : Nat} {rows out out2 : List (List Int)} {goal : List Int} (h : IsRed p n rows out) (h2 : IsRed p n (rows ++ [goal]) out2) :
    out2.length = out.length ↔ Span (mat p rows) rows.length (vec p goal) := by
  constructor
  · intro e
    refine (h.inv.span _).2 (span_full hp (R := mat p out) (S := mat p out2) (m := out.length) h.ind (fun i hi => ?_) ?_)
    · rw [← e]
      exact (h2.inv.span _).1 (span_snoc_up (h.out_in hi))
    · rw [← e]
      exact (h2.inv.span _).1 (span_snoc_last rows goal)
  · intro hs
    have h3 : IsRed p n rows out2 := h2.span_eq (fun v => ⟨span_snoc_down hs, span_snoc_up⟩)
    rw [h3.unique hp h]

/-- The sum of the products, not yet divided. -/
def fsum (f : List Int) (rows : List (List Int)) (k : Nat) : Nat → Int
  | 0 => 0
  | i + 1 => fsum f rows k i + gi f i * gi (gr rows i) k
theorem fsum_phi (f : List Int) (rows : List (List Int)) (k : Nat) : ∀ m, phi p (fsum f rows k m) = sm (fun i => vec p f i * mat p rows i k) m
  | 0 => phi_zero
  | m + 1 => by
    rw [fsum, phi_add, phi_mul, fsum_phi f rows k m]
    rfl
theorem fsum_goal {n : Nat} {f goal : List Int} {rows : List (List Int)} (hg : GoodRow p n goal) {k : Nat} (hk : k < n) (h : vec p goal k = sm (fun i => vec p f i * mat p rows i k) rows.length) : fsum f rows k rows.length % p = gi goal k := by
  have h1 : phi p (fsum f rows k rows.length) = phi p (gi goal k) := by rw [fsum_phi]; exact h.symm
  have h2 := phi_inj h1
  rw [h2]
  exact Int.emod_eq_of_lt (hg.2 k hk).1 (hg.2 k hk).2
end
theorem fsum_range {q : Nat} {f : List Int} {rows : List (List Int)} {k : Nat} (hq : q ≤ 7) : ∀ m, (∀ i, i < m → 0 ≤ gi f i ∧ gi f i < q) → (∀ i, i < m → 0 ≤ gi (gr rows i) k ∧ gi (gr rows i) k < q) → 0 ≤ fsum f rows k m ∧ fsum f rows k m ≤ 36 * m
  | 0, _, _ => ⟨Int.le_refl _, by simp [fsum]⟩
  | m + 1, hf, hr => by
    have h := fsum_range hq m (fun i hi => hf i (by omega)) (fun i hi => hr i (by omega))
    have h1 := hf m (by omega)
    have h2 := hr m (by omega)
    have h3 : 0 ≤ gi f m * gi (gr rows m) k := Int.mul_nonneg h1.1 h2.1
    have h4 : gi f m * gi (gr rows m) k ≤ 6 * 6 := Int.mul_le_mul (by omega) (by omega) h2.1 (by omega)
    rw [fsum]
    omega
end Go.Proofs.Ytgpmkbenjlhfhaa
