/- Checks of codes: checks of checks are sums of the rows; ranks of checks by ranks of rows. Plain. -/
import Derived.Test.YtgpmkbenjlhfhaaCodC
import Derived.Test.YtgpmkbenjlhfhaaNulk
import Derived.Test.YtgpmkbenjlhfhaaTabLawM
namespace Go.Proofs.Ytgpmkbenjlhfhaa
open Go.RowKit Mat
set_option linter.unusedVariables false

section
variable {q : Nat} [NeZero q]
theorem dt_comm (n : Nat) (u v : Nat → Fin q) : dt n u v = dt n v u := sm_congr (fun i _ => by grind)

theorem TabOk.ind_valid {n : Nat} {rows : List (List Int)} (h : TabOk q n rows) (hi : Ind (mat q rows) rows.length) (h4 : rows.length ≤ 4) : ValidC q rows := by
  obtain ⟨o, ho⟩ := IsRed.exists h.pr h.good
  exact ⟨h.vtB, h4, o, ⟨q, _, rfl, h.pr, by rw [h.cols]; exact ho⟩, rank_of_ind h.pr ho hi⟩
theorem CodeOk.valid {n : Nat} {rows : List (List Int)} (h : CodeOk q n rows) : ValidC q rows := h.tab.ind_valid h.ind h.r4

/-- The checks of a code. -/
theorem NulC.at {rows checks : List (List Int)} {n : Nat} (h : NulC q rows checks) (ht : TabOk q n rows) : ∃ a, IsRed q n rows a ∧ checks = nlTo q n a n := by
  obtain ⟨q', i2, e', _, a, hra, hoa⟩ := h
  obtain rfl : q = q' := by omega
  rw [ht.cols] at hra hoa
  exact ⟨a, hra, hoa⟩
theorem red_len {n : Nat} {rows a : List (List Int)} (h : CodeOk q n rows) (hr : IsRed q n rows a) : a.length = rows.length := rank_of_ind h.tab.pr hr h.ind
theorem CodeOk.dual {n : Nat} {rows a : List (List Int)} (h : CodeOk q n rows) (hr : IsRed q n rows a) (h1 : 1 ≤ (nlTo q n a n).length) (h4 : (nlTo q n a n).length ≤ 4) : CodeOk q n (nlTo q n a n) := by
  have hg := nlTo_good h.tab.pr n a n
  exact ⟨⟨h.tab.pr, hg, (hg 0 h1).1, h.tab.n7, h.tab.n1, h1, by omega⟩, h4, nulls_ind h.tab.pr a⟩
theorem CodeOk.dual_len {n : Nat} {rows a : List (List Int)} (h : CodeOk q n rows) (hr : IsRed q n rows a) : (nlTo q n a n).length + rows.length = n := by
  have h1 := nlTo_count hr
  rw [red_len h hr] at h1
  exact h1
theorem mat_ge {n : Nat} {rows : List (List Int)} (hg : GoodRows q n rows) {i k : Nat} (hi : i < rows.length) (hk : n ≤ k) : mat q rows i k = 0 := vec_ge (by rw [(hg i hi).1]; exact hk)
/-- What is orthogonal to all checks is a sum of the rows. -/
theorem CodeOk.dual_span {n : Nat} {rows a b : List (List Int)} (h : CodeOk q n rows) (hr : IsRed q n rows a) (h1 : 1 ≤ (nlTo q n a n).length) (h4 : (nlTo q n a n).length ≤ 4) (hb : IsRed q n (nlTo q n a n) b) (v : Nat → Fin q) :
    Span (mat q rows) rows.length v ↔ Span (mat q (nlTo q n b n)) (nlTo q n b n).length v := by
  have hd := h.dual hr h1 h4
  have hl1 := h.dual_len hr
  have hl2 := hd.dual_len hb
  have hl : (nlTo q n b n).length = rows.length := by omega
  have hin : ∀ i, i < rows.length → Span (mat q (nlTo q n b n)) (nlTo q n b n).length (mat q rows i) := fun i hi =>
    nulls_all h.tab.pr hb (fun k hk => by rw [dt_comm]; exact nulls_orth h.tab.pr hr hk hi) (fun k hk => mat_ge h.tab.good hi hk)
  rw [hl] at hin ⊢
  exact ⟨fun hv => hv.mono hin, fun hv => span_full h.tab.pr h.ind hin hv⟩
theorem CodeOk.dual_dual {n : Nat} {rows a b c : List (List Int)} (h : CodeOk q n rows) (hr : IsRed q n rows a) (h1 : 1 ≤ (nlTo q n a n).length) (h4 : (nlTo q n a n).length ≤ 4) (hb : IsRed q n (nlTo q n a n) b) (hc : IsRed q n (nlTo q n b n) c) : c = a :=
  (hc.span_eq (fun v => (h.dual_span hr h1 h4 hb v).symm)).unique h.tab.pr hr
end
end Go.Proofs.Ytgpmkbenjlhfhaa
